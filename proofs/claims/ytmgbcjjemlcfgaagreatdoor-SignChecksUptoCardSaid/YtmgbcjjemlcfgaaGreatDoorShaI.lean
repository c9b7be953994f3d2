/- What is proved here: the reference's SHA-256, whole. Conditions: what is summed is shorter than 2^45 bytes. -/
import Derived.Test.YtmgbcjjemlcfgaaGreatDoorShaH
namespace Go.Proofs.YtmgbcjjemlcfgaaGreatDoor
open Go.RowKit

theorem quiet_load_row {P : Program} {w : World} {o : Oper} {a : Act} {K : Act → Prop} (ty : TypeId) (x : Operand) (ho : o.op = .load ty x) (g : Nat) (hx : a.eval x = .pointer (some ⟨g, 0, none⟩)) {t : TypeId} {cs : Array Value} {d : TypeDesc}
    (hb : Blk w g t cs) (hu : P.underlying ty = some d) (hd : d.isRow = true) (hi : (P.info? ty).map (·.size) = some cs.size) (h : K (a.put o.dst (.agg cs))) : o.quiet P a (fun w' => ∃ q, w' = w.drewN q) K := by
  refine ⟨.agg cs, fun w' ⟨q, e⟩ => ?_, h⟩
  subst e
  have hr : (w.drewN q).rangeAt g 0 cs.toList := fun j v hv => by rw [Nat.zero_add, (hb.drewN q).cell]; simpa using hv
  have hl := run_loadVar_mid (P := P) (w.drewN q) g 0 ty cs.toList d hr hu hd (by simpa using hi)
  unfold Oper.quietAt execOp
  simp only [ho, hx, Instr.loadAt, Instr.sureAddr, Sem.run_bind, Sem.run_pure, Result.andThen_ok, hl]
  exact ⟨rfl, by simp⟩
theorem be4_get (L : List W) (j r : Nat) (hr : r < 4) (x : W) (hx : L[j]? = some x) : (L.flatMap be4)[4 * j + r]? = (be4 x)[r]? := by
  induction L generalizing j with
  | nil => simp at hx
  | cons y l ih =>
    rw [List.flatMap_cons]
    cases j with
    | zero =>
      simp at hx; subst hx
      rw [List.getElem?_append_left (by rw [be4_len]; omega)]
      simp
    | succ j =>
      rw [List.getElem?_append_right (by rw [be4_len]; omega), be4_len, show 4 * (j + 1) + r - 4 = 4 * j + r by omega]
      exact ih j (by simpa using hx)
theorem be4_at (x : W) {r : Nat} (hr : r < 4) : (be4 x)[r]? = some (UInt8.ofNat (x.toNat / 2 ^ (8 * (3 - r)))) := by
  have : r = 0 ∨ r = 1 ∨ r = 2 ∨ r = 3 := by omega
  rcases this with rfl | rfl | rfl | rfl <;> rfl
theorem words_get (t : St) {j : Nat} (h : j < 8) : (words t)[j]? = some (sw t j) := by
  rcases eight h with rfl | rfl | rfl | rfl | rfl | rfl | rfl | rfl <;> rfl
theorem hashL_at (t : St) {i : Nat} (h : i < 32) : (hashL t)[i]? = some (UInt8.ofNat ((sw t (i / 4)).toNat / 2 ^ (8 * (3 - i % 4)))) := by
  have h1 := be4_get (words t) (i / 4) (i % 4) (by omega) (sw t (i / 4)) (words_get t (by omega))
  rw [show 4 * (i / 4) + i % 4 = i by omega, be4_at _ (by omega)] at h1
  exact h1
theorem hashL_len (t : St) : (hashL t).length = 32 := by rw [hashL, be4_flat]; rfl
def outB (t : St) (i : Nat) : List Value := ((hashL t).take i).map bv ++ List.replicate (32 - i) (.int .u8 0)
theorem outB_set (t : St) {i : Nat} (h : i < 32) : (outB t i).toArray.setIfInBounds i (bv (UInt8.ofNat ((sw t (i / 4)).toNat / 2 ^ (8 * (3 - i % 4))))) = (outB t (i + 1)).toArray := by
  have hl : (((hashL t).take i).map bv).length = i := by simp [hashL_len]; omega
  have hg := hashL_at t h
  have ht : (hashL t).take (i + 1) = (hashL t).take i ++ [UInt8.ofNat ((sw t (i / 4)).toNat / 2 ^ (8 * (3 - i % 4)))] := by
    rw [List.take_add_one, hg]; rfl
  rw [outB, outB, ht, List.setIfInBounds_toArray, List.set_append_right _ _ (by omega), hl, Nat.sub_self, show 32 - i = (32 - (i + 1)) + 1 by omega, List.replicate_succ, List.set_cons_zero, List.map_append, List.append_assoc]
  rfl
theorem outB_size (t : St) {i : Nat} (h : i ≤ 32) : (outB t i).toArray.size = 32 := by simp [outB, hashL_len]; omega
theorem outB_zero (t : St) {i : Nat} (h : i < 32) : (outB t i).toArray[i]? = some (.int .u8 0) := by
  have hl : (((hashL t).take i).map bv).length = i := by simp [hashL_len]; omega
  rw [outB, List.getElem?_toArray, List.getElem?_append_right (by omega), hl, List.getElem?_replicate, if_pos (by omega)]
theorem outB_all (t : St) : outB t 32 = (hashL t).map bv := by
  rw [outB, List.take_of_length_le (by rw [hashL_len]; omega)]; simp
theorem cut_piece (t : ByteArray) (i : Nat) (h : 64 * i + 64 ≤ t.size) : (t.extract (64 * i) (64 * i + 64)).size = 64 ∧ (t.extract (64 * i) (64 * i + 64)).data.toList = pieceOf t.data.toList i := by
  constructor
  · rw [ByteArray.size_extract]; omega
  · rw [ByteArray.data_extract, Array.toList_extract]
    simp [pieceOf]
structure RS (A S : Nat) (t : St) (w wr : World) : Prop where
  res : Blk wr A 51 (List.replicate 32 (Value.int .u8 0)).toArray
  st : Blk wr S 69 t.vals.toArray
  lt : A < S
  rest : Only NoneOf w wr
  new : w.heap.size ≤ A
theorem RS.only {A S : Nat} {t : St} {w wr wx : World} (h : RS A S t w wr) (ho : Only NoneOf wr wx) : RS A S t w wx := ⟨h.res.only ho (fun h => h), h.st.only ho (fun h => h), h.lt, h.rest.trans ho, h.new⟩
theorem RS.put {A S : Nat} {t t' : St} {w wr : World} (h : RS A S t w wr) (ks : List Value) (hk : ks = t'.vals) : RS A S t' w (wr.setCells S 0 ks) := by
  subst hk
  have := h.lt; have := h.new
  exact ⟨h.res.farCells (by omega) _ 0, h.st.filled _ rfl, h.lt, only_setCells h.rest _ _ (.inr (by omega)) _, h.new⟩
theorem rs_start {w : World} {z8 z32 : Array Value} {ks : List Value} (hk : ks = st0.vals) (h8 : z8.size = 8) (h32 : z32 = (List.replicate 32 (Value.int .u8 0)).toArray) :
    RS w.heap.size (w.heap.size + 1) st0 w (((w.alloc (.cells z32 51)).alloc (.cells z8 69)).setCells (w.heap.size + 1) 0 ks) := by
  subst hk h32
  have h1 := Blk.new (w.alloc (.cells (List.replicate 32 (Value.int .u8 0)).toArray 51)) 69 z8
  rw [World.size_alloc] at h1
  exact ⟨((Blk.new w _ _).alloc _).farCells (by omega) _ 0, Blk.filled (xs := z8.toList) (by simpa using h1) _ (by simp [h8]; rfl), by omega, only_setCells (((Only.refl NoneOf w).alloc _).alloc _) _ _ (.inr (by omega)) _, Nat.le_refl _⟩
/-- With the block of the bytes that come out. -/
structure RO (A S O : Nat) (t : St) (i : Nat) (w wr : World) : Prop where
  out : Blk wr O 51 (outB t i).toArray
  rs : RS A S t w wr
  lt : S < O
theorem RO.put {A S O : Nat} {t : St} {i : Nat} {w wr : World} {v v' : Value} (h : RO A S O t i w wr) (hs : (outB t i).toArray.setIfInBounds i v = (outB t (i + 1)).toArray) (hv : v' = v) : RO A S O t (i + 1) w (wr.setCell ⟨O, i, none⟩ v') := by
  subst hv
  have h1 := h.out.set_ i v'
  rw [hs] at h1
  have := h.lt; have := h.rs.lt; have := h.rs.new
  exact ⟨h1, ⟨h.rs.res.far (by show A ≠ O; omega) _, h.rs.st.far (by show S ≠ O; omega) _, h.rs.lt, h.rs.rest.setCell (.inr (by show _ ≤ O; omega)) _, h.rs.new⟩, h.lt⟩
set_option maxRecDepth 100000 in
set_option maxHeartbeats 1000000 in
theorem rsum_any (s : ByteArray) (w : World) (hs : s.size ≤ 35184372088832) :
    Calls Tryz.prog 33 #[.string s] w fun e w' => e = .returned (.agg ((shaL s.data.toList).map bv).toArray) ∧ Only NoneOf w w' := by
  have i53 : (Tryz.prog.info? 69).map (·.size) = some 8 := by kernel_rfl
  have I53 := Lib.hid i53
  clear i53
  go_enter Tryz.func33, Tryz.ntmps33
  have tok1 : True := trivial
  go_wp2_with (have _t := tok1; refine wpList_store_mid rfl 69 (.tmp 3) (.tmp 8) rfl (w.heap.size + 1) 0 st0.vals.toArray rfl rfl (by rw [← World.size_alloc w (.cells (Array.replicate 32 (.int .u8 0)) 51)]; exact there_new _ 69 _ 8 (Nat.le_refl _)) I53.out (vals_one st0) ?_; clear tok1 _t)
  refine calls_gen (RS w.heap.size (w.heap.size + 1) st0 w) ?hR ?_
  case hR =>
    refine rs_start ?_ ?_ ?_
    · first | rfl | simp
    · rfl
    · rfl
  intro W1 h1
  have H1 := Lib.hid h1
  clear h1
  refine (padded_any s W1 hs).mono ?_
  rintro e w2 ⟨⟨t, rfl, ht⟩, ho2⟩
  have hlen := padded_len s.data.toList
  rw [← ht] at hlen
  obtain ⟨m, hm⟩ : ∃ m, t.size = 64 * m := ⟨t.size / 64, by simp at hlen; omega⟩
  have H2 := Lib.hid (H1.out.only ho2)
  have HT := Lib.hid ht
  have HM := Lib.hid hm
  have bt : t.size ≤ 35184372089000 := by
    have := congrArg List.length ht
    simp [padded, be8, padN] at this
    omega
  clear ht hm hlen ho2 H1
  go_wp2_with fail
  go_loopw [5] (fun v wr => ∃ j : Nat, v = .int .i64 ((64 * j : Nat) : Int) ∧ j ≤ m ∧ RS w.heap.size (w.heap.size + 1) (comps st0 t.data.toList j) w wr) (fun v _ => t.size - (intOf v).toNat)
  case atStart => exact ⟨0, rfl, by omega, H2.out⟩
  case round =>
    clear H2
    obtain ⟨j, rfl, hj, h3⟩ := hrel
    have hmt := HM.out
    by_cases hlt : j < m
    · have hcp := cut_piece t j (by omega)
      have hblk := block_any (comps st0 t.data.toList j) (t.extract (64 * j) (64 * j + 64)) hcp.1
      rw [hcp.2] at hblk
      have HBLK := Lib.hid hblk
      have H3 := Lib.hid h3
      have l1 : ((64 * j : Nat) : Int) < (t.size : Int) := by omega
      have l2 : 64 * (j : Int) < (t.size : Int) := by omega
      have l3 : 0 ≤ 64 * (j : Int) := by omega
      have l4 : (64 * (j : Int)).toNat = 64 * j := by omega
      have l5 : IntKind.i64.wrap (64 * (j : Int) + 64) = 64 * (j : Int) + 64 := IntWalk.i64_in _ (by omega)
      have l6 : (64 * (j : Int) + 64).toNat = 64 * j + 64 := by omega
      have l7 : 64 * (j : Int) + 64 ≤ (t.size : Int) := by omega
      have l8 : 0 ≤ 64 * (j : Int) + 64 := by omega
      have l9 : 64 * (j : Int) ≤ 64 * (j : Int) + 64 := by omega
      have e1 : ((64 * j : Nat) : Int) = 64 * (j : Int) := by omega
      have bts : t.size = 64 * m := hmt
      have HBTS := Lib.hid bts
      clear hcp hblk h3 hmt bts
      go_wp2_with fail
      refine wp_region_quiet_tail 6 (by kernel_rfl) (by kernel_rfl) ?_
      simp only [List.take_succ_cons, List.take_zero, List.drop_succ_cons, List.drop_zero]
      refine wpQuiet_step (fun K hK => ?_)
      rw [if_pos (by kernel_rfl)]
      refine quiet_load_row 69 (.tmp 3) rfl (w.heap.size + 1) rfl H3.out.st Tryz.underlying69 rfl I53.out ?_
      go_simp
      refine hK _ ?_
      clear hK K
      repeat (go_big_quiet_step (fail))
      refine wpQuiet_nil ?_
      intro nq
      go_wp2_with fail
      refine (HBLK.out _).mono ?_
      rintro e w4 ⟨rfl, ho4⟩
      have h4 := (H3.out.only ((Only.refl NoneOf wr).drewN nq)).only ho4
      have H4 := Lib.hid h4
      clear h4 ho4
      obtain ⟨t', et⟩ : ∃ t', t' = comp (comps st0 t.data.toList j) (pieceOf t.data.toList j) := ⟨_, rfl⟩
      rw [← et]
      have ET := Lib.hid et
      clear et
      have hv1 := vals_one t'
      have HV1 := Lib.hid hv1
      clear hv1
      have tok1 : True := trivial
      go_wp2_with (have _t := tok1; refine wpList_store_mid rfl 69 (.tmp 3) (.tmp 23) rfl (w.heap.size + 1) 0 t'.vals.toArray rfl rfl (H4.out.st.there 0 8 (Nat.le_refl _)) I53.out HV1.out ?_; clear tok1 _t)
      go_roundw
      case rel =>
        refine ⟨j + 1, by go_num, by omega, ?_⟩
        refine H4.out.put _ ?_
        rw [ET.out]
        first | rfl | simp [comps, pieceOf]
      case measure => have := HBTS.out; simp [intOf]; omega
    · obtain rfl : j = m := by omega
      obtain ⟨u, eu⟩ : ∃ u, u = comps st0 t.data.toList j := ⟨_, rfl⟩
      rw [← eu] at h3
      have EU := Lib.hid eu
      have H3 := Lib.hid h3
      have e1 : ((64 * j : Nat) : Int) = 64 * (j : Int) := by omega
      have l2 : ¬ 64 * (j : Int) < (t.size : Int) := by omega
      have HMT := Lib.hid hmt
      clear eu h3 hmt
      go_wp2_with fail
      obtain ⟨O, hO⟩ : ∃ O, O = wr.heap.size := ⟨_, rfl⟩
      have hO2 := H3.out.st.lt
      have hro : RO w.heap.size (w.heap.size + 1) O u 0 w (wr.alloc (.cells (Array.replicate 32 (.int .u8 0)) 51)) := ⟨hO ▸ Blk.new wr _ _, (H3.out.only ((Only.refl NoneOf wr).alloc _)), by omega⟩
      have HRO := Lib.hid hro
      rw [← hO]
      clear hO hro hO2
      go_loopw [7] (fun v wr => ∃ i : Nat, v = .int .i64 i ∧ i ≤ 32 ∧ RO w.heap.size (w.heap.size + 1) O u i w wr) (fun v _ => 32 - (intOf v).toNat)
      case atStart => exact ⟨0, rfl, by omega, HRO.out⟩
      case round =>
        clear HRO
        obtain ⟨i, rfl, hi, h5⟩ := hrel
        by_cases h32 : i < 32
        · obtain ⟨x, ex⟩ : ∃ x, x = sw u (i / 4) := ⟨_, rfl⟩
          have hset := outB_set u h32
          rw [← ex] at hset
          have cs : wr.cell? ⟨w.heap.size + 1, i / 4, none⟩ = some (.int .u32 (x.toNat : Int)) := by rw [ex]; exact (h5.rs.st.cell _).trans (vals_get u (by omega))
          have cz := (h5.out.cell i).trans (outB_zero u h32)
          have fz := h5.out.frozen i
          have d0 : 0 ≤ (i : Int) / 4 := by omega
          have d1 : (i : Int) / 4 < 8 := by omega
          have d2 : ((i : Int) / 4).toNat = i / 4 := by omega
          have HSET := Lib.hid hset
          have H5 := Lib.hid h5
          have hr : i % 4 = 0 ∨ i % 4 = 1 ∨ i % 4 = 2 ∨ i % 4 = 3 := by omega
          have EX := Lib.hid ex
          clear hset h5 ex
          rcases hr with hr | hr | hr | hr
          all_goals
            have hri : (i : Int) % 4 = ((i % 4 : Nat) : Int) := by omega
            have HR := Lib.hid hr
            rw [hr] at hri
            clear hr
            go_wp2_with fail
            go_roundw
            case rel =>
              refine ⟨i + 1, by go_num, by omega, ?_⟩
              have hs := HSET.out
              rw [HR.out] at hs
              refine H5.out.put hs ?_
              have := x.isLt; simp [bv]; try omega
            case measure => simp [intOf]; omega
        · obtain rfl : i = 32 := by omega
          have H5 := Lib.hid h5
          have hz := outB_size u (Nat.le_refl 32)
          have hi41 : (Tryz.prog.info? 51).map (·.size) = some (outB u 32).toArray.size := by rw [hz]; kernel_rfl
          have hone : (outB u 32).toArray.all (·.oneCell') = true := by rw [outB_all]; exact all_oneCell_toArray (bvs_one _)
          have HZ := Lib.hid hz
          have HI41 := Lib.hid hi41
          have HONE := Lib.hid hone
          clear h5 hz hi41 hone
          have tok1 : True := trivial
          have tok2 : True := trivial
          go_wp2_with (first
            | (have _t := tok1; refine wpList_load_row rfl 51 (.tmp 6) rfl O rfl 51 (outB u 32).toArray (0, 0) _ H5.out.out Tryz.underlying51 rfl HI41.out ?_; clear tok1 _t)
            | (have _t := tok2; refine wpList_store_mid rfl 51 (.tmp 2) (.tmp 40) rfl w.heap.size 0 (outB u 32).toArray rfl rfl (H5.out.rs.res.there 0 _ (by rw [HZ.out]; exact Nat.le_refl _)) HI41.out HONE.out ?_; clear tok2 _t))
          have hbf := H5.out.rs.res.filled (outB u 32).toArray.toList (by rw [Array.length_toList, HZ.out]; rfl)
          refine bodyPost_ret (results_blk rfl rfl hbf Tryz.underlying51 rfl (by simpa using HI41.out)) rfl ⟨?_, only_setCells H5.out.rs.rest _ _ (.inr (Nat.le_refl _)) _⟩
          have hsha : shaL s.data.toList = hashL u := by
            rw [EU.out, HT.out]
            exact shaL_eq _ j (by rw [← HT.out]; simpa using HMT.out)
          rw [hsha, ← outB_all]
end Go.Proofs.YtmgbcjjemlcfgaaGreatDoor
