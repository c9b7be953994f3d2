/- What is proved here: the law of changed boxes returns true. Conditions: the table of powers of ten reads as its initialiser lays it; the text is short. -/
import Derived.Test.YtdgapomeenigbaaDoorRefI
import Derived.Test.YtdgapomeenigbaaDoorKeys
import Derived.Deep.AppendLies
namespace Go.Proofs.YtdgapomeenigbaaDoor
open Go.RowKit Go.Shelf
/-- Whatever this box opens to has the check of the text, or it is the box of the text. -/
def Good (key : Int) (text L : List UInt8) : Prop := ∀ s, openS key L = (s, true) → checkS key text ≠ checkS key s ∧ shaL (checkS key text) = shaL (checkS key s)
theorem good_of {key : Int} {text L : List UInt8} (hne : L ≠ sealS key text) (ht : 32 ≤ L.length → L.take 32 = (sealS key text).take 32) : Good key text L := fun s h => by
  rcases Nat.lt_or_ge L.length 32 with h1 | h1
  · rw [openS_short h1] at h; cases h
  · exact open_clash h (ht h1) (.inr hne)
theorem xor_ne {b d : UInt8} (hd : d ≠ 0) : b ^^^ d ≠ b := fun e => hd (by
  have h : b ^^^ (b ^^^ d) = b ^^^ b := congrArg (fun x => b ^^^ x) e
  rw [← UInt8.xor_assoc, UInt8.xor_self, UInt8.zero_xor] at h
  exact h)
theorem set_ne {B : List UInt8} {at' : Nat} {b d : UInt8} (hb : B[at']? = some b) (hd : d ≠ 0) : B.set at' (b ^^^ d) ≠ B := fun e => by
  have h1 : (B.set at' (b ^^^ d))[at']? = some (b ^^^ d) := by rw [List.getElem?_set_self (List.getElem?_eq_some_iff.1 hb).1]
  rw [e, hb] at h1
  exact xor_ne hd (Option.some.inj h1).symm
theorem good_turned {key : Int} {text : List UInt8} {at' : Nat} {b d : UInt8} (hb : (sealS key text)[at']? = some b) (hd : d ≠ 0) : Good key text ((sealS key text).set at' (b ^^^ d)) := by
  by_cases h : at' < 32
  · intro s hs
    have := open_turned (key := key) (t := text) (l := (sealS key text).set at' (b ^^^ d)) (by rw [List.drop_set, if_pos h]) (set_ne hb hd)
    rw [hs] at this
    cases this
  · exact good_of (set_ne hb hd) (fun _ => by rw [List.take_set, List.set_eq_of_length_le (by rw [List.length_take]; omega)])
theorem turned_none {key : Int} {text : List UInt8} {at' : Nat} {b d : UInt8} (hb : (sealS key text)[at']? = some b) (hd : d ≠ 0) (h : at' < 32) : (openS key ((sealS key text).set at' (b ^^^ d))).2 = false :=
  open_turned (key := key) (t := text) (l := (sealS key text).set at' (b ^^^ d)) (by rw [List.drop_set, if_pos h]) (set_ne hb hd)
theorem good_cut {key : Int} {text : List UInt8} {m : Nat} (hm : m < (sealS key text).length) : Good key text ((sealS key text).take m) :=
  good_of (fun e => by have := congrArg List.length e; rw [List.length_take] at this; omega) (fun h => by
    rw [List.length_take] at h
    rw [List.take_take, Nat.min_eq_left (by omega)])
theorem good_more {key : Int} {text z : List UInt8} (hz : 0 < z.length) : Good key text (sealS key text ++ z) :=
  good_of (fun e => by have := congrArg List.length e; rw [List.length_append] at this; omega) (fun _ => by
    rw [List.take_append_of_le_length (by rw [sealS_len]; omega)])
theorem own_blk {w : World} {base : Nat} {e : TypeId} {n : Nat} {v : Value} {xs : List Value} (h : w.ownsRow base e 1 v n xs) (hn : 0 < n) : ∃ g cap cur, v = .slice (some ⟨g, 0, none⟩) n cap ∧ base ≤ g ∧ n ≤ cap ∧ cap ≤ maxLen ∧ Blk w g e cur ∧ cur.toList.take n = xs := by
  rcases h.2 with ⟨_, h0⟩ | ⟨g, cap, cur, hv, hb, hh, hc, hm, _, ht⟩
  · omega
  · exact ⟨g, cap, cur, hv, hb, hc, hm, hh, by simpa using ht⟩
theorem blk_take_bytes {w : World} {g : Nat} {t : TypeId} {cur : Array Value} {n : Nat} {l : List UInt8} (hb : Blk w g t cur) (h : cur.toList.take n = l.map bv) : BytesAt w g 0 l := fun j x hx => by
  rw [Nat.zero_add, hb.cell]
  have h1 : (cur.toList.take n)[j]? = some (bv x) := by rw [h, List.getElem?_map, hx]; rfl
  rw [List.getElem?_take] at h1
  split at h1
  · simpa using h1
  · cases h1
theorem cur_set {cur : Array Value} {n a : Nat} {l : List UInt8} {y : UInt8} (h : cur.toList.take n = l.map bv) : (cur.setIfInBounds a (bv y)).toList.take n = (l.set a y).map bv := by
  rw [Array.toList_setIfInBounds, List.take_set, h, List.map_set]
set_option maxRecDepth 100000 in
set_option maxHeartbeats 1000000 in
theorem changed_any (key : Int) (h0 : -9223372036854775808 ≤ key) (h1 : key ≤ 9223372036854775807) (s : ByteArray) (q0 q1 q2 : Nat) (hs : s.size ≤ 1048576) (hq0 : q0 < 65536) (hq1 : q1 < 65536) (hq2 : q2 < 65536) (w : World) (ht : Tab w) :
    Calls Tryd.prog 6 #[.int .i64 key, .string s, .agg #[.int .u16 (q0 : Int), .int .u16 (q1 : Int), .int .u16 (q2 : Int)]] w fun e w' => e = .returned (.bool true) ∧ Only NoneOf w w' := by
  obtain ⟨i0, hi0, hz0, hz1, hz2⟩ := info_parts Tryd.info5
  have HT := Lib.hid ht
  have H0 := Lib.hid h0
  have H1 := Lib.hid h1
  obtain ⟨X0, eX0⟩ : ∃ X, X = w.alloc (.cells #[.int .u16 (q0 : Int), .int .u16 (q1 : Int), .int .u16 (q2 : Int)] 31) := ⟨_, rfl⟩
  obtain ⟨B, eB⟩ : ∃ B, B = w.heap.size := ⟨_, rfl⟩
  have hb := Blk.new w 31 #[.int .u16 (q0 : Int), .int .u16 (q1 : Int), .int .u16 (q2 : Int)]
  rw [← eX0, ← eB] at hb
  have HXX : Hid (Only NoneOf w X0) := Lib.hid (by rw [eX0]; exact (Only.refl _ _).alloc _)
  have HBQ := Lib.hid hb
  have EX0 := Lib.hid eX0
  have EB := Lib.hid eB
  have hlw : w.heap.size < X0.heap.size := by have := hb.lt; omega
  clear ht h0 h1 eX0 eB hb
  go_enter Tryd.func6, Tryd.ntmps6
  go_wp2_with fail
  rw [← EX0.out, ← EB.out]
  refine (sanity_any X0 (HT.out.none HXX.out)).mono ?_
  rintro e w1 ⟨rfl, ho1⟩
  have HO1 := Lib.hid (HXX.out.trans ho1)
  have HB1 := Lib.hid (HBQ.out.only ho1 (fun e => e))
  clear ho1
  go_wp2_with fail
  refine (seal_any key H0.out H1.out s (by omega) w1 (HT.out.none HO1.out)).mono ?_
  rintro e w2 ⟨t, rfl, htl, ho2⟩
  have hts : t.size = 32 + s.size := by rw [size_list, htl, sealS_len, ← size_list]
  have HTL := Lib.hid htl
  have HTS := Lib.hid hts
  have HO2 := Lib.hid (HO1.out.trans ho2)
  have HB2 := Lib.hid (HB1.out.only ho2 (fun e => e))
  clear htl hts ho2
  have htn : (32 : Int) + (s.size : Int) = (t.size : Int) := by have := HTS.out; omega
  have htp : ¬ (t.size : Int) = 0 := by have := HTS.out; omega
  have htm : t.size ≤ 2097152 := by have := HTS.out; omega
  have wq0 : IntKind.i64.wrap (q0 : Int) = (q0 : Int) := IntWalk.i64_in _ (by omega)
  have wq2 : IntKind.i64.wrap (q2 : Int) = (q2 : Int) := IntWalk.i64_in _ (by omega)
  obtain ⟨a, ea⟩ : ∃ a, a = q0 % t.size := ⟨_, rfl⟩
  have ha : a < t.size := by rw [ea]; exact Nat.mod_lt _ (by have := HTS.out; omega)
  have ea2 : (q0 : Int) % (t.size : Int) = (a : Int) := by rw [ea]; simp
  clear ea
  have hlen : (sealS key s.data.toList).length = t.size := by rw [sealS_len, HTS.out, ← size_list]
  have HLEN := Lib.hid hlen
  clear hlen
  have tok1 : True := trivial
  have tok2 : True := trivial
  go_wp2_with (first
    | (have _t := tok1; refine wpList_convert_string rfl 9 32 5 (.tmp 21) rfl t rfl Tryd.underlying9 Tryd.underlying32 Tryd.underlying5 (by unfold maxLen; omega) w2 w2.heap.size rfl (Only.refl NoneOf _) ?_; intro g1 c1 w3 hb1 ho3 hg1a hg1b hc1 hc1m; have HB3 := Lib.hid (HB2.out.only ho3.out (fun e => e)); have k0 := HB3.out.cell 0; clear tok1 _t)
    | (at_builtin; have _t := tok2; refine wpList_append_own _ rfl (.tmp 35) (.tmp 36) 32 rfl w3.heap.size 5 i0 _ 1 1 Tryd.underlying32 hi0 hz0 hz1 hz2 rfl (by decide) (.slice (some ⟨w3.heap.size, 0, none⟩) 0 0) 0 [] rfl (by exact World.ownsRow_made w3 _ 0 (Nat.le_refl _) (by unfold maxLen; omega) rfl) ⟨g1, 0, none⟩ t.size c1 ((sealS key s.data.toList).map bv) rfl (by rw [List.length_map, HLEN.out, Nat.mul_one]) (by exact bytes_src (by have h := hb1.out.alloc (.cells #[] 5); rw [HTL.out] at h; exact h.bytes)) (bvs_one _) (by rw [maxLen_val]; omega) (by omega) (by simp) ?_; intro v' w4 hown4 hgrow4 _; clear tok2 _t))
  have ho34 : Only NoneOf w3 w4 := ((Only.refl NoneOf w3).alloc _).grown hgrow4 (fun k e => .inr (by cases e; exact Nat.le_refl _))
  rw [Nat.zero_add, List.nil_append] at hown4
  obtain ⟨g2, c2, cur, hv2, hg2, hc2, hc2m, hblk2, htk2⟩ := own_blk hown4 (by omega)
  subst hv2
  have hbox4 : BytesAt w4 g1 0 (sealS key s.data.toList) := by
    have h := hb1.out
    rw [HTL.out] at h
    exact h.bytes.only ho34 (fun e => e)
  have HB4 := Lib.hid (HB3.out.only ho34 (fun e => e))
  have HO4 := Lib.hid (HO2.out.trans (ho3.out.trans ho34))
  have HBOX4 := Lib.hid hbox4
  have HBLK2 := Lib.hid hblk2
  have HTK2 := Lib.hid htk2
  obtain ⟨b, eb⟩ : ∃ b, (sealS key s.data.toList)[a]? = some b := ⟨_, List.getElem?_eq_getElem (by have := HLEN.out; omega)⟩
  have ca : w4.cell? ⟨g2, a, none⟩ = some (.int .u8 (b.toNat : Int)) := by
    have h := blk_take_bytes hblk2 htk2 a b eb
    rw [Nat.zero_add] at h
    exact h
  have fa := hblk2.frozen a
  have k1 := HB4.out.cell 1
  simp only [List.getElem?_toArray, List.getElem?_cons_succ, List.getElem?_cons_zero] at k1
  obtain ⟨e, ee⟩ : ∃ e, e = q1 % 255 := ⟨_, rfl⟩
  have he : e < 255 := by omega
  have ee2 : (q1 : Int) % 255 = (e : Int) := by omega
  have ee3 : (q1 : Int).tmod 255 = (e : Int) := by rw [Int.tmod_eq_emod_of_nonneg (by omega)]; omega
  obtain ⟨d, ed⟩ : ∃ d, d = UInt8.ofNat (1 + e) := ⟨_, rfl⟩
  have hdn : d.toNat = 1 + e := by rw [ed, UInt8.toNat_ofNat']; omega
  have hd0 : d ≠ 0 := fun h => by
    have h2 : (0 : UInt8).toNat = 0 := rfl
    rw [h, h2] at hdn; omega
  have we1 : IntKind.u8.wrap (e : Int) = (e : Int) := by simp [IntKind.wrap, IntKind.bits, IntKind.signed]; omega
  have we2 : IntKind.u8.wrap (1 + (e : Int)) = (d.toNat : Int) := by rw [hdn]; simp [IntKind.wrap, IntKind.bits, IntKind.signed]; omega
  have EB2 := Lib.hid eb
  have HD0 := Lib.hid hd0
  have a0 : 0 ≤ (a : Int) := by omega
  have a1 : (a : Int) < (t.size : Int) := by omega
  have hg2n : g2 ≠ g1 := by omega
  have hg2b : g2 ≠ B := by have := HB3.out.lt; omega
  unfold maxLen at hc2m
  clear hown4 hgrow4 hbox4 hblk2 htk2 eb ee ed hdn hd0 hb1 ho3 k0 ho34
  go_region
  obtain ⟨T, eT⟩ : ∃ T, T = (sealS key s.data.toList).set a (b ^^^ d) := ⟨_, rfl⟩
  have hTl : T.length = t.size := by rw [eT, List.length_set]; exact HLEN.out
  have hblk5 : Blk (w4.setCell ⟨g2, a, none⟩ (bv (b ^^^ d))) g2 5 (cur.setIfInBounds a (bv (b ^^^ d))) := HBLK2.out.set_ a _
  have htb := blk_take_bytes hblk5 (cur_set HTK2.out)
  rw [← eT] at htb
  have hbb : BytesAt (w4.setCell ⟨g2, a, none⟩ (bv (b ^^^ d))) g1 0 (sealS key s.data.toList) := HBOX4.out.only ((Only.refl (fun k => k = g2) w4).setCell (.inl rfl) _) (fun e => hg2n e.symm)
  have hb5 := HB4.out.far (p := ⟨g2, a, none⟩) (fun e => hg2b e.symm) (bv (b ^^^ d))
  have ho5 : Only NoneOf w (w4.setCell ⟨g2, a, none⟩ (bv (b ^^^ d))) := HO4.out.setCell (.inr (Nat.le_trans HO2.out.size (Nat.le_trans (Nat.le_of_lt (Nat.lt_of_le_of_lt hg1a hg1b)) hg2))) _
  rw [b_xor]
  have HHT := Lib.hid htb
  have HBB := Lib.hid hbb
  have HB5 := Lib.hid hb5
  have HO5 := Lib.hid ho5
  have HTLEN := Lib.hid hTl
  have ET := Lib.hid eT
  clear htb hbb hb5 ho5 hTl eT hblk5 ca fa k1 ee2 ee3 we1 we2
  have tok3 : True := trivial
  go_wp2_with (have _t := tok3; refine wpList_convert_back rfl 32 9 5 (.tmp 51) rfl g2 0 t.size c2 rfl T HTLEN.out HHT.out Tryd.underlying32 Tryd.underlying5 Tryd.underlying9 ?_; clear tok3 _t)
  refine calls_gen (fun Y => BytesAt Y g2 0 T ∧ BytesAt Y g1 0 (sealS key s.data.toList) ∧ Blk Y B 31 #[.int .u16 (q0 : Int), .int .u16 (q1 : Int), .int .u16 (q2 : Int)] ∧ Only NoneOf w Y) ⟨HHT.out, HBB.out, HB5.out.drew, HO5.out.drew⟩ ?_
  rintro Y ⟨hYT, hYB, hYq, hYo⟩
  have HYT := Lib.hid hYT
  have HYB := Lib.hid hYB
  have HYQ := Lib.hid hYq
  have HYO := Lib.hid hYo
  have hXl : (⟨T.toArray⟩ : ByteArray).data.toList = T := by simp
  have hXs : (⟨T.toArray⟩ : ByteArray).size ≤ 2097152 := by rw [size_list, hXl, HTLEN.out]; exact htm
  have HXL := Lib.hid hXl
  have HXS := Lib.hid hXs
  clear hYT hYB hYq hYo hXl hXs HHT HBB HB5 HO5
  refine (open_any key H0.out H1.out ⟨T.toArray⟩ (Nat.le_trans HXS.out (by omega)) Y (HT.out.none HYO.out)).mono ?_
  rintro e5 w5 ⟨u, rfl, hul, ho5⟩
  rw [HXL.out] at hul ⊢
  have HO5 := Lib.hid (HYO.out.trans ho5)
  have HT5 := Lib.hid (HYT.out.only ho5 (fun e => e))
  have HB5 := Lib.hid (HYB.out.only ho5 (fun e => e))
  have HQ5 := Lib.hid (HYQ.out.only ho5 (fun e => e))
  obtain ⟨v, ev⟩ : ∃ v, v = (openS key T).2 := ⟨_, rfl⟩
  have hv32 : a < 32 → v = false := fun h => by rw [ev, ET.out]; exact turned_none EB2.out HD0.out h
  rw [← ev]
  have EV := Lib.hid ev
  have HV32 := Lib.hid hv32
  have k2 := HQ5.out.cell 2
  simp only [List.getElem?_toArray, List.getElem?_cons_succ, List.getElem?_cons_zero] at k2
  obtain ⟨m, em⟩ : ∃ m, m = 1 + q2 % t.size := ⟨_, rfl⟩
  have hm1 : 1 ≤ m := by omega
  have hm2 : m ≤ t.size := by rw [em]; have := Nat.mod_lt q2 (show 0 < t.size by omega); omega
  have em2 : 1 + (q2 : Int) % (t.size : Int) = (m : Int) := by rw [em]; simp
  clear ev hv32 ho5 hul em
  obtain ⟨K, eK⟩ : ∃ K, K = t.size - m := ⟨_, rfl⟩
  have eK2 : (t.size : Int) - (m : Int) = (K : Int) := by omega
  obtain ⟨XT, hXT, hcT⟩ : ∃ x : ByteArray, x.data.toList = T ∧ ∀ W, Only NoneOf w5 W → (convert 32 9 (.slice (some ⟨g2, 0, none⟩) t.size c2)).run Tryd.prog W = .ok (.string x) W :=
    ⟨⟨T.toArray⟩, by simp, fun W hW => run_back (HT5.out.only hW (fun e => e)) HTLEN.out⟩
  obtain ⟨XB, hXB, hcB⟩ : ∃ x : ByteArray, x.data.toList = sealS key s.data.toList ∧ ∀ W, Only NoneOf w5 W → (convert 32 9 (.slice (some ⟨g1, 0, none⟩) t.size c1)).run Tryd.prog W = .ok (.string x) W :=
    ⟨⟨(sealS key s.data.toList).toArray⟩, by simp, fun W hW => run_back (HB5.out.only hW (fun e => e)) HLEN.out⟩
  obtain ⟨XP, hXP, hcP⟩ : ∃ x : ByteArray, x.data.toList = (sealS key s.data.toList).take K ∧ ∀ W, Only NoneOf w5 W → (convert 32 9 (.slice (some ⟨g1, 0, none⟩) K c1)).run Tryd.prog W = .ok (.string x) W :=
    ⟨⟨((sealS key s.data.toList).take K).toArray⟩, by simp, fun W hW => run_back (by have h := (HB5.out.only hW (fun e => e)).part 0 K; simpa using h) (by rw [List.length_take, HLEN.out]; omega)⟩
  have hmk := fun w => run_make_row' (P := Tryd.prog) 32 5 (.int .u8 0) 1 Tryd.underlying32 info_u8 rfl .i64 .i64 m (by omega) (by omega) w
  rw [madeBytes m] at hmk
  have hz1 := run_zeros_d m
  have hz0 := run_zeros m
  have r1 := hcT w5.drew (Only.refl NoneOf w5).drew
  have r2 := hcB w5.drew (Only.refl NoneOf w5).drew
  have r3 := hcP w5.drew (Only.refl NoneOf w5).drew
  have r4 := hcT (w5.alloc (.cells (Array.replicate m (bv 0)) 5)).drew ((Only.refl NoneOf w5).alloc _).drew
  have r5 := hcB (w5.alloc (.cells (Array.replicate m (bv 0)) 5)).drew ((Only.refl NoneOf w5).alloc _).drew
  have r6 := hcP (w5.alloc (.cells (Array.replicate m (bv 0)) 5)).drew ((Only.refl NoneOf w5).alloc _).drew
  have sB : XB.size ≤ 2097152 := by rw [size_list, hXB, HLEN.out]; exact htm
  have sZ : (zerosS m).size ≤ 2097152 := by rw [zerosS_size]; omega
  have HXT := Lib.hid hXT
  have HXB := Lib.hid hXB
  have HXP := Lib.hid hXP
  have EK := Lib.hid eK
  have K1 : K ≤ t.size := by omega
  clear hcT hcB hcP hXT hXB hXP eK
  have gd0 : Good key s.data.toList XT.data.toList := by rw [HXT.out, ET.out]; exact good_turned EB2.out HD0.out
  have gd1 : Good key s.data.toList XP.data.toList := by rw [HXP.out]; exact good_cut (by rw [HLEN.out]; omega)
  have gd2 : Good key s.data.toList (XB ++ zerosS m).data.toList := by rw [append_list, HXB.out, zerosS_list]; exact good_more (by simp; omega)
  have sT : XT.size ≤ 4194304 := by rw [size_list, HXT.out, HTLEN.out]; omega
  have sP : XP.size ≤ 4194304 := by rw [size_list, HXP.out, List.length_take, HLEN.out]; omega
  have sBZ : (XB ++ zerosS m).size ≤ 4194304 := by rw [ByteArray.size_append]; omega
  have hpick : ∀ (wr : World) (k : Nat) (G : Nat), k < 3 → Blk wr G 9 #[.string XT, .string XP, .string (XB ++ zerosS m)] → ∃ x : ByteArray, wr.cell? ⟨G, k, none⟩ = some (.string x) ∧ Good key s.data.toList x.data.toList ∧ x.size ≤ 4194304 := by
    intro wr k G hk hb
    match k, hk with
    | 0, _ => exact ⟨_, hb.cell 0, gd0, sT⟩
    | 1, _ => exact ⟨_, hb.cell 1, gd1, sP⟩
    | 2, _ => exact ⟨_, hb.cell 2, gd2, sBZ⟩
  have HPICK := Lib.hid hpick
  clear gd0 gd1 gd2 sT sP sBZ hpick
  by_cases h32 : a < 32
  all_goals
    first
      | (have hv := HV32.out h32; subst hv)
      | (have h32i : decide ((a : Int) < 32) = false := decide_eq_false (by omega))
    go_wp2_with fail
    clear k2 em2
    go_region
    go_wp2_with fail
    clear r1 r2 r3 r4 r5 r6 hmk hz0 hz1 h32
    obtain ⟨G, eG⟩ : ∃ G, G = w5.heap.size + 1 := ⟨_, rfl⟩
    rw [← eG]
    have hGb : Blk ((w5.alloc (.cells (Array.replicate m (bv 0)) 5)).alloc (.cells #[.string XT, .string XP, .string (XB ++ zerosS m)] 9)).drew G 9 #[.string XT, .string XP, .string (XB ++ zerosS m)] := by
      have h := Blk.new (w5.alloc (.cells (Array.replicate m (bv 0)) 5)) 9 #[.string XT, .string XP, .string (XB ++ zerosS m)]
      rw [World.size_alloc, ← eG] at h
      exact h.drew
    have hGo : Only NoneOf w ((w5.alloc (.cells (Array.replicate m (bv 0)) 5)).alloc (.cells #[.string XT, .string XP, .string (XB ++ zerosS m)] 9)).drew := ((HO5.out.alloc _).alloc _).drew
    have HGB := Lib.hid hGb
    have HGO := Lib.hid hGo
    clear hGb hGo eG
    go_loopw [15] (fun v wr => ∃ k : Nat, v = .int .i64 k ∧ k ≤ 3 ∧ Blk wr G 9 #[.string XT, .string XP, .string (XB ++ zerosS m)] ∧ Only NoneOf w wr) (fun v _ => 3 - (intOf v).toNat)
    case atStart => exact ⟨0, rfl, by omega, HGB.out, HGO.out⟩
    case round =>
      obtain ⟨k, rfl, hk, hB, hO⟩ := hrel
      have HBk := Lib.hid hB
      have HOk := Lib.hid hO
      clear hB hO
      by_cases hlt : k < 3
      · obtain ⟨x, hx, hgx, hxs⟩ := HPICK.out wr k G hlt HBk.out
        have HGX := Lib.hid hgx
        have ik : (k : Int) < 3 := by omega
        have ik0 : 0 ≤ (k : Int) := by omega
        clear hgx
        go_wp2_with fail
        refine (open_any key H0.out H1.out x (by omega) wr (HT.out.none HOk.out)).mono ?_
        rintro e6 w6 ⟨y, rfl, hyl, ho6⟩
        obtain ⟨vv, evv⟩ : ∃ vv, vv = (openS key x.data.toList).2 := ⟨_, rfl⟩
        rw [← evv]
        have hys : y.size ≤ 4194304 := by
          rw [size_list, hyl]
          exact Nat.le_trans openS_len (by rw [← size_list]; exact hxs)
        have HO6 := Lib.hid (HOk.out.trans ho6)
        have HB6 := Lib.hid (HBk.out.only ho6 (fun e => e))
        have HYL := Lib.hid hyl
        have EVV := Lib.hid evv
        clear ho6 hyl evv
        cases vv
        · go_wp2_with fail
          go_roundw
          case rel => exact ⟨k + 1, by go_num, by omega, HB6.out, HO6.out⟩
          case measure => simp [intOf]; omega
        · have hcl := HGX.out y.data.toList (by rw [HYL.out, EVV.out])
          have HCL := Lib.hid hcl
          clear hcl
          go_wp2_with fail
          refine (rcheck_any key H0.out H1.out s (by omega) w6).mono ?_
          rintro e7 w7 ⟨x1, rfl, hc1, ho7⟩
          have hn1 : x1.size ≤ 8388608 := by
            have := itoa_len H0.out H1.out
            rw [size_list, hc1]
            simp only [checkS, List.length_append, List.length_cons, List.length_nil]
            rw [← size_list]; omega
          have HC1 := Lib.hid hc1
          have HN1 := Lib.hid hn1
          have HO7 := Lib.hid (HO6.out.trans ho7)
          have HB7 := Lib.hid (HB6.out.only ho7 (fun e => e))
          clear hc1 hn1 ho7
          go_wp2_with fail
          refine (rcheck_any key H0.out H1.out y (by omega) w7).mono ?_
          rintro e8 w8 ⟨x2, rfl, hc2', ho8⟩
          have hn2 : x2.size ≤ 8388608 := by
            have := itoa_len H0.out H1.out
            rw [size_list, hc2']
            simp only [checkS, List.length_append, List.length_cons, List.length_nil]
            rw [← size_list]; omega
          have HC2 := Lib.hid hc2'
          have HN2 := Lib.hid hn2
          have HO8 := Lib.hid (HO7.out.trans ho8)
          have HB8 := Lib.hid (HB7.out.only ho8 (fun e => e))
          clear hc2' hn2 ho8
          go_wp2_with fail
          refine (clash_yes x1 x2 (Nat.le_trans HN1.out (by omega)) (Nat.le_trans HN2.out (by omega)) (by rw [HC1.out, HC2.out]; exact HCL.out.1) (by rw [HC1.out, HC2.out]; exact HCL.out.2) w8).mono ?_
          rintro e9 w9 ⟨rfl, ho9⟩
          have HO9 := Lib.hid (HO8.out.trans ho9)
          have HB9 := Lib.hid (HB8.out.only ho9 (fun e => e))
          clear ho9
          go_wp2_with fail
          go_roundw
          case rel => exact ⟨k + 1, by go_num, by omega, HB9.out, HO9.out⟩
          case measure => simp [intOf]; omega
      · have ik : ¬ (k : Int) < 3 := by omega
        go_wp2_with fail
        go_ret
        exact ⟨rfl, HOk.out⟩
end Go.Proofs.YtdgapomeenigbaaDoor
