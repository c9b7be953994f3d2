/- What is proved here: the program's SHA-256, whole. Conditions: what is summed is shorter than 2^45 bytes. -/
import Derived.Test.YtmgbcjjemlcfgaaGreatDoorShaE
import Derived.Deep.RegionLaw
import Derived.Deep.RegionHeld3
namespace Go.Proofs.YtmgbcjjemlcfgaaGreatDoor
open Go.RowKit Go.Shelf
attribute [local go_sem] Oper.semAt_some
theorem Tryz.info5 : (Tryz.prog.info? 5).map (fun i => (i.zero, i.size, i.bytes)) = some (some (.int .u8 0), 1, 1) := by kernel_rfl
def PadIs (n k : Nat) : Prop := (120 - (n : Int) % 64) % 64 = (k : Int)
theorem PadIs.v {n k : Nat} (h : PadIs n k) : Value.int .i64 ((120 - (n : Int) % 64) % 64) = .int .i64 (k : Int) := congrArg _ h
set_option maxRecDepth 100000 in
set_option maxHeartbeats 400000 in
theorem sum_any (s : ByteArray) (w : World) (hs : s.size ≤ 35184372088832) :
    Calls Tryz.prog 55 #[.string s] w fun e w' => e = .returned (.agg ((shaL s.data.toList).map bv).toArray) ∧ Only NoneOf w w' := by
  obtain ⟨i0, hi0, hz0, hz1, hz2⟩ := info_parts Tryz.info5
  obtain ⟨n1, en1⟩ : ∃ n1, n1 = s.size + 1 := ⟨_, rfl⟩
  obtain ⟨k, ek⟩ : ∃ k, k = (120 - n1 % 64) % 64 := ⟨_, rfl⟩
  obtain ⟨n2, en2⟩ : ∃ n2, n2 = n1 + k := ⟨_, rfl⟩
  obtain ⟨n3, en3⟩ : ∃ n3, n3 = n2 + 4 := ⟨_, rfl⟩
  obtain ⟨m, en4⟩ : ∃ m, 64 * m = n3 + 4 := ⟨(n3 + 4) / 64, by omega⟩
  have hsl : s.data.toList.length = s.size := by simp
  obtain ⟨L, eL⟩ : ∃ L, L = s.data.toList := ⟨_, rfl⟩
  have HI0 := Lib.hid hi0
  have HZ0 := Lib.hid hz0
  have HZ1 := Lib.hid hz1
  have HZ2 := Lib.hid hz2
  have EN1 := Lib.hid en1
  have EK := Lib.hid ek
  have EN2 := Lib.hid en2
  have EN3 := Lib.hid en3
  have EN4 := Lib.hid en4
  have HSL := Lib.hid hsl
  have EL := Lib.hid eL
  have b1 : n1 ≤ 35184372088833 := by omega
  have b2 : n2 ≤ 35184372088897 := by omega
  have b3 : n3 ≤ 35184372088901 := by omega
  have bk : k < 64 := by omega
  have hpad : PadIs n1 k := by unfold PadIs; omega
  clear hi0 hz0 hz1 hz2 en1 ek en2 en3 en4 hsl eL
  refine callsIn_wide.1 (callsIn_of_wp_marks (n := 9) Tryz.func55 rfl trivial ?_ rfl)
  simp only [Tryz.ntmps55, List.size_toArray, List.length_cons, List.length_nil, Nat.reduceAdd, Nat.reduceSub, Array.replicate_succ, Array.replicate_zero, List.push_toArray, List.append_toArray, List.nil_append, List.cons_append]
  refine wpIn_wide.2 ?_
  go_wp2_with (first
    | (refine wpList_convert_string rfl 9 53 5 (.tmp 10) rfl s rfl Tryz.underlying9 Tryz.underlying53 Tryz.underlying5 (by unfold maxLen; omega) _ (w.heap.size + 1) (World.size_alloc _ _) (Only.refl NoneOf _) ?_; intro g1 c1 w1 hb1 ho1 hg1a hg1b hc1 hc1m)
    | (refine wpList_append_buf rfl (.tmp 11) (.tmp 12) 53 53 rfl 5 i0 Tryz.underlying53 HI0.out HZ0.out HZ1.out HZ2.out g1 s.size c1 s.data.toList rfl (hb1.out.alloc _) _ (w.heap.size + 1) (World.size_alloc _ _) (ho1.out.alloc _) hg1a _ rfl [0x80] (src_bytes Tryz.underlying53 (BytesAt.new _ _ _) rfl) (by have := HSL.out; simp; omega) (s.data.toList ++ [0x80]) n1 rfl (by have := HSL.out; have := EN1.out; simp; omega) ?_; intro g2 c2 w2 hb2 ho2 hg2a hg2b hc2 hc2m)
    | (refine wpList_append_zeros rfl (.tmp 14) (.tmp 19) 53 3 rfl 5 i0 .i64 .i64 Tryz.underlying53 Tryz.underlying3 HI0.out HZ0.out HZ1.out HZ2.out g2 n1 c2 _ rfl hb2.out _ (w.heap.size + 1) (World.size_alloc _ _) ho2.out hg2a k hpad.v (by have := HSL.out; have := EN1.out; simp; omega) (s.data.toList ++ [0x80] ++ List.replicate k 0) n2 rfl (by have := HSL.out; have := EN1.out; have := EN2.out; simp; omega) ?_; intro g3 c3 w3 hb3 ho3 hg3a hg3b hc3 hc3m))
  obtain ⟨xh, exh⟩ : ∃ xh : W, xh = BitVec.ofNat 32 (8 * s.size / 4294967296) := ⟨_, rfl⟩
  obtain ⟨xl, exl⟩ : ∃ xl : W, xl = BitVec.ofNat 32 (8 * s.size) := ⟨_, rfl⟩
  have EXH := Lib.hid exh
  have EXL := Lib.hid exl
  clear exh exl
  refine (bytes_at _ xh ?hv1 _).mono ?_
  case hv1 => rw [EXH.out, BitVec.toNat_ofNat]; omega
  rintro e w4 ⟨rfl, rfl⟩
  go_wp2_with (refine wpList_append_buf rfl (.tmp 25) (.tmp 29) 53 53 rfl 5 i0 Tryz.underlying53 HI0.out HZ0.out HZ1.out HZ2.out g3 n2 c3 _ rfl (hb3.out.alloc _) _ (w.heap.size + 1) (World.size_alloc _ _) (ho3.out.alloc _) hg3a _ rfl (be4 xh) (src_bytes Tryz.underlying53 (BytesAt.new _ _ _) rfl) (by have := HSL.out; have := EN1.out; have := EN2.out; simp [be4_len]; omega) (s.data.toList ++ [0x80] ++ List.replicate k 0 ++ be4 xh) n3 rfl (by have := HSL.out; have := EN1.out; have := EN2.out; have := EN3.out; simp [be4_len]; omega) ?_; intro g4 c4 w4 hb4 ho4 hg4a hg4b hc4 hc4m)
  refine (bytes_at _ xl ?hv2 _).mono ?_
  case hv2 => rw [EXL.out, BitVec.toNat_ofNat]; omega
  rintro e w5 ⟨rfl, rfl⟩
  go_wp2_with (refine wpList_append_buf rfl (.tmp 30) (.tmp 33) 53 53 rfl 5 i0 Tryz.underlying53 HI0.out HZ0.out HZ1.out HZ2.out g4 n3 c4 _ rfl (hb4.out.alloc _) _ (w.heap.size + 1) (World.size_alloc _ _) (ho4.out.alloc _) hg4a _ rfl (be4 xl) (src_bytes Tryz.underlying53 (BytesAt.new _ _ _) rfl) (by have := HSL.out; have := EN1.out; have := EN2.out; have := EN3.out; simp [be4_len]; omega) (s.data.toList ++ [0x80] ++ List.replicate k 0 ++ be4 xh ++ be4 xl) (64 * m) rfl (by have := HSL.out; have := EN1.out; have := EN2.out; have := EN3.out; have := EN4.out; simp [be4_len]; omega) ?_; intro g5 c5 w5 hb5 ho5 hg5a hg5b hc5 hc5m)
  refine (start_any _).mono ?_
  rintro e w6 ⟨rfl, ho6⟩
  have HO6 := Lib.hid ho6
  clear ho6
  have tok1 : True := trivial
  go_wp2_with (have _t := tok1; refine wpList_store_mid rfl 69 (.tmp 5) (.tmp 35) rfl w6.heap.size 0 st0.vals.toArray rfl rfl (there_new w6 69 _ 8 (Nat.le_refl _)) (by kernel_rfl) (by decide +kernel) ?_; clear tok1 _t)
  obtain ⟨p, ep⟩ : ∃ p, p = s.data.toList ++ [0x80] ++ List.replicate k 0 ++ be4 xh ++ be4 xl := ⟨_, rfl⟩
  have hpl : p.length = 64 * m := by have := HSL.out; have := EN1.out; have := EN2.out; have := EN3.out; have := EN4.out; rw [ep]; simp [be4_len]; omega
  have hpp : p = padded s.data.toList := by
    have e8 := be8_eq (8 * s.size) (by omega)
    rw [ep, padded, HSL.out, e8, ← EXH.out, ← EXL.out, padN, show (120 - (s.size + 1) % 64) % 64 = k from by have := EK.out; have := EN1.out; omega]
    simp
  have hby5 := hb5.out.bytes
  rw [← ep] at hby5
  have HBY := Lib.hid hby5
  have HPL := Lib.hid hpl
  have HPP := Lib.hid hpp
  clear hby5 hpl hpp ep
  refine calls_gen (SumI (w.alloc (.cells (Array.replicate 32 (.int .u8 0)) 51)) w6.heap.size g5 p st0) ?_ ?_
  · exact sum_start (by simp) rfl (HBY.out.only HO6.out (fun h => h)) (Nat.lt_of_lt_of_le hg5b HO6.out.size) (ho5.out.trans HO6.out)
  intro W hW
  refine (chunk_any _ _ _ _).mono ?_
  rintro e w7 ⟨rfl, rfl⟩
  go_wp2_with fail
  refine (wpIn_wide (n := 9)).1 (wpIn_rangeFunc_ownF rfl (show 1 ≤ 9 by omega) (gf := 86) (lb := #[.pointer (some ⟨W.heap.size, 0, none⟩), .pointer (some ⟨W.heap.size + 1, 0, none⟩)]) rfl trivial (enters_of Tryz.func86 (by kernel_rfl) rfl)
    (chunk_stops 8 W.heap.size (W.heap.size + 1) g5 m c5 hc5 (by unfold maxLen at hc5m; omega) _ ?cA ?cB) kept2_t (kept2_b ?hA ?hB) (Below.refl _ _) ?sz
    (fun pre X => SumI (w.alloc (.cells (Array.replicate 32 (.int .u8 0)) 51)) w6.heap.size g5 p (foldC st0 p pre) X ∧ W.heap.size + 2 ≤ X.heap.size) (fun _ _ _ => False)
    ?own (fun _ _ _ _ _ h _ _ => h) ?start ?a1 ?assign ?body ?done ?stop)
  case hA => simp; omega
  case hB => simp
  case sz => exact fun _ => rfl
  case cA => exact ((Blk.new W _ _).alloc _).cell 0
  case cB => exact new2_cell W _ _ _ 0
  case own => exact OwnFrom.and (sumI_own (by have := HPL.out; have := EN4.out; omega) (Nat.le_trans hW.rest.size (two_size W _ _))) (fun _ _ _ _ h hg _ => Nat.le_trans h hg.size)
  case start => exact ⟨(hW.alloc _).alloc _, by simp⟩
  case assign =>
    intro l x X K hK
    gi_wp2
    exact hK
  case body =>
    rintro l pre x X ⟨hI, hbig⟩ hlen
    have HI := Lib.hid hI
    have hbl : (pieceOf p x.val).length = 64 := by have := HPL.out; have := x.2; simp [pieceOf]; omega
    have hadd := add_any (n := 64) (c := 64) hI.state (hI.bytes.part (64 * x.val) 64) hbl (by omega) (by omega) (by omega) hI.lt
    have HADD := Lib.hid hadd
    clear hI hadd hbl
    unfold piece
    gi_wp2
    refine ⟨trivial, (CallsIn.inRound l (callsIn_wide.2 HADD.out)).mono ?_⟩
    rintro e X2 ⟨⟨v, rfl⟩, hb2, ho2⟩
    gi_wp2
    refine ⟨keepsOthers_of_only ho2 (fun k hk => by subst hk; exact ⟨_, HI.out.state, rfl⟩), ⟨ho2.block _ ?_ ?_, ho2.block _ ?_ ?_⟩, ?_⟩
    · omega
    · have := hW.state.lt; omega
    · omega
    · have := hW.state.lt; omega
    · refine ⟨?_, Nat.le_trans hbig ho2.size⟩
      rw [foldC_snoc]
      exact HI.out.step hb2 ho2
  case done =>
    rintro D xs W8 hD rfl ⟨hI, hbig⟩ hK
    rw [foldC_all] at hI
    obtain ⟨t, et⟩ : ∃ t, t = comps st0 p m := ⟨_, rfl⟩
    rw [← et] at hI
    have ET := Lib.hid et
    have hld := (hI.state.alloc (.cells (Array.replicate 32 (.int .u8 0)) 51))
    have HLD := Lib.hid hld
    have HI8 := Lib.hid hI
    have HK := Lib.hid hK
    have hs5 : ∀ w, (Go.sizeOf 68).run Tryz.prog w = .ok 1 w := fun _ => by kernel_rfl
    have ha5 : ∀ w, (isAgg 68).run Tryz.prog w = .ok false w := fun _ => by kernel_rfl
    have HS5 := Lib.hid hs5
    have HA5 := Lib.hid ha5
    clear et hld hI hK hs5 ha5
    go_wp2_with (refine wpList_load_row rfl 69 (.tmp 5) rfl w6.heap.size rfl 69 t.vals.toArray (0, 0) _ HLD.out Tryz.underlying69 rfl (by kernel_rfl) ?_)
    go_loopw [42] (fun v wr => ∃ j : Nat, v = .int .i64 j ∧ j ≤ 8 ∧ Blk wr W8.heap.size 51 (outRow t j).toArray ∧ Only NoneOf W8 wr) (fun v _ => 8 - (intOf v).toNat)
    case atStart => exact ⟨0, rfl, by omega, Blk.new W8 _ _, (Only.refl NoneOf W8).alloc _⟩
    case round =>
      obtain ⟨j, rfl, hj, hbo, ho⟩ := hrel
      by_cases h8 : j < 8
      · have hix := run_index_arr (P := Tryz.prog) (cs := t.vals.toArray) Tryz.underlying69 HS5.out HA5.out h8 (vals_get t h8)
        obtain ⟨x, ex⟩ : ∃ x, x = sw t j := ⟨_, rfl⟩
        rw [← ex] at hix
        unfold wv at hix
        have EX := Lib.hid ex
        have HBO := Lib.hid hbo
        have HO := Lib.hid ho
        clear ex hbo ho
        have hmin : ((be4 x).map bv).length = Nat.min 4 (32 - 4 * j) := by rw [List.length_map, be4_len]; exact (Nat.min_eq_left (by omega)).symm
        have HMIN := Lib.hid hmin
        have hfit : 4 * j + ((be4 x).map bv).length ≤ (outRow t j).toArray.size := by rw [List.length_map, be4_len, List.size_toArray, outRow_len t hj]; omega
        have HFIT := Lib.hid hfit
        clear hmin hfit
        go_wp2_with fail
        have w4j : IntKind.i64.wrap (4 * (j : Int)) = 4 * (j : Int) := IntWalk.i64_in _ (by omega)
        have p4j : 0 ≤ 4 * (j : Int) := by omega
        have q4j : 4 * (j : Int) ≤ 32 := by omega
        have n4j : (4 * (j : Int)).toNat = 4 * j := by omega
        have n32 : ¬ 32 = 4 * j := by omega
        refine wp_region_noPanic ?_
        go_region_law (first
          | (refine step_copy_bytes rfl (.tmp 48) (.tmp 50) 53 53 rfl 5 Tryz.underlying53 (by kernel_rfl) W8.heap.size (4 * j) (32 - 4 * j) (32 - 4 * j) ⟨wr.heap.size, 0, none⟩ 4 4 (by simp [Act.eval]) (by simp [Act.eval]) ((be4 x).map bv) HMIN.out (bytes_src (BytesAt.new _ _ _)) ((HBO.out.alloc _).there _ _ HFIT.out) (bvs_one _) ?_)
          | (go_simp; go_at_call 69; refine (bytes_any x _).mono ?_; rintro e w9 ⟨rfl, rfl⟩))
        refine NoPanic.normal ?_
        go_wp2_with fail
        go_roundw
        case rel =>
          refine ⟨j + 1, by go_num, by omega, ?_, ?_⟩
          · have := (HBO.out.alloc (.cells ((be4 x).map bv).toArray 5)).setCells ((be4 x).map bv) (4 * j)
            rw [EX.out, outRow_set t h8, ← EX.out] at this
            exact this
          · exact only_setCells (HO.out.drew.alloc _) _ _ (.inr (Nat.le_refl _)) _
        case measure => simp [intOf]; omega
      · obtain rfl : j = 8 := by omega
        have hres : Blk wr w.heap.size 51 (List.replicate 32 (Value.int .u8 0)).toArray := ((Blk.new w 51 (List.replicate 32 (Value.int .u8 0)).toArray).only HI8.out.rest (fun h => h)).only ho (fun h => h)
        have hKr : wr.heap[D]? = some (.deferred (some [])) := (ho.block D (Array.getElem?_eq_some_iff.1 HK.out).1 (fun h => h)).trans HK.out
        have HRES := Lib.hid hres
        have HBO := Lib.hid hbo
        have HO := Lib.hid ho
        have HKR := Lib.hid hKr
        have hz8 : (outRow t 8).toArray.size = 32 := outRow_len t (by omega)
        have hi41 : (Tryz.prog.info? 51).map (·.size) = some (outRow t 8).toArray.size := by rw [hz8]; kernel_rfl
        have hone : (outRow t 8).toArray.all (·.oneCell') = true := by rw [outRow_all]; exact all_oneCell_toArray (bvs_one _)
        have HI41 := Lib.hid hi41
        have HONE := Lib.hid hone
        have HZ8 := Lib.hid hz8
        clear hres hbo ho hKr hz8 hi41 hone
        have tok2 : True := trivial
        have tok3 : True := trivial
        go_wp2_with (first
          | (have _t := tok2; refine wpList_load_row rfl 51 (.tmp 7) rfl W8.heap.size rfl 51 (outRow t 8).toArray (0, 0) _ HBO.out Tryz.underlying51 rfl HI41.out ?_; clear tok2 _t)
          | (have _t := tok3; refine wpList_store_mid rfl 51 (.tmp 2) (.tmp 53) rfl w.heap.size 0 (outRow t 8).toArray rfl rfl (HRES.out.there 0 _ (by rw [HZ8.out]; exact Nat.le_refl _)) HI41.out HONE.out ?_; clear tok3 _t))
        have hDn : w.heap.size < D := by
          have h1 := hW.rest.size
          have h2 := two_size W (.cells #[.slice (some ⟨g5, 0, none⟩) (64 * m) c5] 53) (.cells #[.int .i64 64] 3)
          rw [World.size_alloc] at h1
          omega
        have hKs := ((only_setCells (Only.refl (fun k => k = w.heap.size) wr) w.heap.size 0 (.inl rfl) (outRow t 8).toArray.toList).block D (Array.getElem?_eq_some_iff.1 HKR.out).1 (by omega)).trans HKR.out
        have hbf := HRES.out.filled (outRow t 8).toArray.toList (by rw [Array.length_toList, HZ8.out]; rfl)
        have hof := only_setCells (((Only.refl NoneOf w).alloc (.cells (Array.replicate 32 (.int .u8 0)) 51)).trans (HI8.out.rest.trans HO.out)) w.heap.size 0 (.inr (Nat.le_refl _)) (outRow t 8).toArray.toList
        have hsha : shaL s.data.toList = hashL t := by rw [ET.out, HPP.out]; exact shaL_eq _ m (by rw [← HPP.out]; exact HPL.out)
        refine ⟨by simp, .inl ⟨_, _, rfl, run_takeDeferred hKs, ?_⟩⟩
        refine ⟨_, results_blk rfl rfl (Blk.put_far hbf (by omega) _) Tryz.underlying51 rfl (by simpa using HI41.out), ?_, ?_⟩
        · rw [hsha, ← outRow_all]
        · exact hof.grown (grownBy_putObj' _ D _) (fun k e => by cases e; exact .inr (by omega))
  case stop => exact fun _ _ _ _ _ _ h => h.elim
end Go.Proofs.YtmgbcjjemlcfgaaGreatDoor
