/- What is proved here: codes of events read by the reference. Conditions: the text is short. -/
import Derived.Test.YtclpebgjmgfigaaGreatDoorEcU
import Derived.Test.YtclpebgjmgfigaaGreatDoorEcL
import Derived.Test.YtclpebgjmgfigaaGreatDoorEvR
namespace Go.Proofs.YtclpebgjmgfigaaGreatDoor
open Go.RowKit Go.Shelf
attribute [local go_sem ↓ high] evStore_eq evLoad_eq hxLoad_eq hxStore_eq hxZero_eq evZero_eq
abbrev iv (n : Int) : Value := .int .i64 n
structure RdC (w : World) (P R E : Nat) (r : ByteArray) (ok : Bool) (e : Ev) (W : World) : Prop where
  res : EvAt W P blank0
  rdr : Blk W R tRdr #[.string r, .bool ok]
  ev : EvAt W E e
  only : Only NoneOf w W
  lo : w.heap.size ≤ P ∧ P < E ∧ w.heap.size ≤ R ∧ P ≠ R ∧ R ≠ E
theorem RdC.next {w W W' : World} {P R E : Nat} {r : ByteArray} {ok : Bool} {e : Ev} (h : RdC w P R E r ok e W) (ho : Only NoneOf W W') : RdC w P R E r ok e W' :=
  ⟨Blk.only h.res ho (fun e => e), h.rdr.only ho (fun e => e), Blk.only h.ev ho (fun e => e), h.only.trans ho, h.lo⟩
theorem RdC.read {w W W' : World} {P R E : Nat} {r r' : ByteArray} {ok ok' : Bool} {e : Ev} (h : RdC w P R E r ok e W) (hb : Blk W' R tRdr #[.string r', .bool ok']) (ho : Only (fun i => i = R) W W') : RdC w P R E r' ok' e W' :=
  ⟨Blk.only h.res ho (fun e => by have := h.lo; have e' : P = R := e; omega), hb, Blk.only h.ev ho (fun e => by have := h.lo; have e' : E = R := e; omega), h.only.trans' ho (fun i hi e => by have := h.lo; have e' : i = R := e; omega), h.lo⟩
theorem RdC.put {w W : World} {P R E i : Nat} {r : ByteArray} {ok : Bool} {e f : Ev} {v : Value} (h : RdC w P R E r ok e W) (hs : (evC e).set i v = evC f) : RdC w P R E r ok f (W.setCell ⟨E, i, none⟩ v) :=
  ⟨Blk.far (p := ⟨E, i, none⟩) h.res (by have := h.lo; show P ≠ E; omega) _, h.rdr.far (p := ⟨E, i, none⟩) (by have := h.lo; show R ≠ E; omega) _, ev_set h.ev hs, h.only.setCell (p := ⟨E, i, none⟩) (.inr (by have := h.lo; show w.heap.size ≤ E; omega)) _, h.lo⟩
/-- In the loop over the ten numbers: what has been read so far as an event. -/
structure RlC (w : World) (P R E L : Nat) (s : List UInt8) (n : Nat) (e0 x : Ev) (k : Nat) (r : ByteArray) (ok : Bool) (W : World) : Prop where
  st : RdC w P R E r ok e0 W
  arr : Blk W L 83 (x.nums.map iv).toArray
  ne : L ≠ P ∧ L ≠ R ∧ L ≠ E ∧ w.heap.size ≤ L
  xok : x.Ok
  same : x.r = e0.r ∧ x.s = e0.s ∧ x.prev = e0.prev ∧ x.name = e0.name ∧ x.text = e0.text
  size : r.size ≤ n
  got : Got s k x r.data.toList ∧ ∀ f, Code s f → ok = true
def RlS (w : World) (P R E L : Nat) (s : List UInt8) (n : Nat) (e0 : Ev) (k : Nat) (W : World) : Prop := ∃ (x : Ev) (r : ByteArray) (ok : Bool), RlC w P R E L s n e0 x k r ok W
theorem nums_iv (x : Ev) : (x.nums.map iv).toArray = #[iv x.seq, iv x.kind, iv x.who, iv x.time, iv x.bidder, iv x.lot, iv x.n, iv x.other, iv x.sx, iv x.sy] := rfl
theorem RlC.step {w W W' : World} {P R E L n k : Nat} {s : List UInt8} {e0 x : Ev} {r r' : ByteArray} {ok ok' : Bool} {m : Int} (hk : k < 10) (h : RlC w P R E L s n e0 x k r ok W) (hm : In m) (hb : Blk W' R tRdr #[.string r', .bool ok']) (ho : Only (fun i => i = R) W W') (hr : r'.size ≤ r.size) (hw : ∀ m' t, NumAt r.data.toList 32 m' t → m = m' ∧ r'.data.toList = t ∧ ok' = ok) : RlC w P R E L s n e0 (x.setN k m) (k + 1) r' ok' (W'.setCell ⟨L, k, none⟩ (iv m)) := by
  have hst := h.st.read hb ho
  have ha := (h.arr.only ho (fun e => h.ne.2.1 e)).set_ k (iv m)
  rw [List.setIfInBounds_toArray, ← List.map_set, ← setN_nums] at ha
  obtain ⟨s1, s2, s3, s4, s5⟩ := setN_rest x k m
  obtain ⟨t1, t2, t3, t4, t5⟩ := h.same
  have hlo := hst.lo
  have hne := h.ne
  refine ⟨⟨Blk.far (p := ⟨L, k, none⟩) hst.res (by show P ≠ L; omega) _, hst.rdr.far (p := ⟨L, k, none⟩) (by show R ≠ L; omega) _, Blk.far (p := ⟨L, k, none⟩) hst.ev (by show E ≠ L; omega) _, hst.only.setCell (p := ⟨L, k, none⟩) (.inr h.ne.2.2.2) _, hst.lo⟩, ha, h.ne, setN_ok h.xok k hm, ⟨s1.trans t1, s2.trans t2, s3.trans t3, s4.trans t4, s5.trans t5⟩, Nat.le_trans hr h.size, h.got.1.step hk (fun m' t hm' => ⟨(hw m' t hm').1, (hw m' t hm').2.1⟩), fun f hf => ?_⟩
  obtain ⟨g1, g2⟩ := h.got.1 f hf
  obtain ⟨m', hm'⟩ : ∃ m', f.nums[k]? = some m' := ⟨_, List.getElem?_eq_getElem (by rw [nums_len]; exact hk)⟩
  obtain ⟨_, _, h5⟩ := hw m' _ (by rw [g2]; exact tlK_num hf.1 hm')
  rw [h5]; exact h.got.2 f hf
theorem RdC.hash {w W : World} {P R E : Nat} {r : ByteArray} {ok : Bool} {e : Ev} (h : RdC w P R E r ok e W) (he : e.prev.length = 32) {L : List UInt8} (hL : L.length = 32) : (hxStore (.pointer (some ⟨E, 12, none⟩)) (.agg (L.map bv).toArray)).run Tryz.prog W = .ok () (W.setCells E 12 (L.map bv)) ∧ RdC w P R E r ok { e with prev := L } (W.setCells E 12 (L.map bv)) :=
  ⟨hx_store_at (Blk.there h.ev 12 32 (by rw [List.size_toArray, evC_len he]; omega)) hL, Blk.farCells (b := E) (by have := h.lo; omega) _ 12 h.res, h.rdr.farCells (b := E) (by have := h.lo; omega) _ 12, ev_cells h.ev he hL, only_setCells h.only _ _ (.inr (by have := h.lo; omega)) _, h.lo⟩
set_option maxRecDepth 100000 in
set_option maxHeartbeats 8000000 in
theorem rdecode23_any (s : ByteArray) (hs : s.size ≤ 40000000) (w : World) : Calls Tryz.prog 18 #[.string s] w (DecE s w) := by
  have hlen : s.data.toList.length = s.size := by simp
  have hY : RdC w w.heap.size (w.heap.size + 1) (w.heap.size + 1 + 1) s true blank0 (((w.alloc (.cells (evC blank0).toArray tEv)).alloc (.cells #[.string s, .bool true] tRdr)).alloc (.cells (evC blank0).toArray tEv)) := by
    have h2 := Blk.new (w.alloc (.cells (evC blank0).toArray tEv)) tRdr #[.string s, .bool true]
    have h3 := Blk.new ((w.alloc (.cells (evC blank0).toArray tEv)).alloc (.cells #[.string s, .bool true] tRdr)) tEv (evC blank0).toArray
    rw [World.size_alloc] at h2
    rw [World.size_alloc, World.size_alloc] at h3
    exact ⟨((Blk.new w tEv (evC blank0).toArray).alloc _).alloc _, h2.alloc _, h3, (((Only.refl _ _).alloc _).alloc _).alloc _, by omega⟩
  obtain ⟨P, eP⟩ : ∃ P, P = w.heap.size := ⟨_, rfl⟩
  have HY := Lib.hid hY
  have EP := Lib.hid eP
  have HLEN := Lib.hid hlen
  have hsize : ∀ f, Code s.data.toList f → In f.name.data.toList.length ∧ In f.text.data.toList.length := fun f hf => hf.short (by omega)
  have HSH := Lib.hid hsize
  clear hY eP hlen hsize
  go_enter Tryz.func18, Tryz.ntmps18
  go_upto_region 3 with (fail)
  refine wp_gen (fun Y => RdC w w.heap.size (w.heap.size + 1) (w.heap.size + 1 + 1) s true blank0 Y) HY.out ?_
  intro Y hS
  rw [← EP.out] at hS ⊢
  obtain ⟨R, eR⟩ : ∃ R, R = P + 1 := ⟨_, rfl⟩
  obtain ⟨E, eE⟩ : ∃ E, E = R + 1 := ⟨_, rfl⟩
  rw [← eR, ← eE] at hS ⊢
  have HS := Lib.hid hS
  clear hS HY EP eR eE
  go_wp2_with fail
  refine (rrnumb_any s (by omega) true 32 blank_ok R Y HS.out.rdr).mono ?_
  rintro e w1 ⟨n1, r1, k1, rfl, hn1, hb1, ho1, hsr1, hw1⟩
  have hS1 := HS.out.read hb1 ho1
  have c44 := (ev_sig hS1.ev rfl).1
  have f44 := Blk.frozen hS1.ev 44
  have hp1 : RdC w P R E r1 k1 (sigE n1 0) (w1.setCell ⟨E, 44, none⟩ (.int .i64 n1)) := hS1.put (set_sig blank0 rfl n1).1
  have HP1 := Lib.hid hp1
  have HN1 := Lib.hid hn1
  have HR1 := Lib.hid hsr1
  have hg1 : ∀ f, Code s.data.toList f → n1 = f.r ∧ r1.data.toList = tlS f ∧ k1 = true := fun f hf => hw1 _ _ (by rw [hf.2]; exact code_num f hf.1)
  have HG1 := Lib.hid hg1
  clear hS1 hb1 ho1 hw1 hp1 hn1 hsr1 hg1 HS
  go_upto_region 4 with (fail)
  refine wp_gen (fun Z => RdC w P R E r1 k1 (sigE n1 0) Z) HP1.out ?_
  intro Z1 hZ1
  have HZ1 := Lib.hid hZ1
  clear hZ1 c44 f44 HP1
  go_wp2_with fail
  refine (rrnumb_any r1 (by have := HR1.out; omega) k1 32 blank_ok R Z1 HZ1.out.rdr).mono ?_
  rintro e w2 ⟨n2, r2, k2, rfl, hn2, hb2, ho2, hsr2, hw2⟩
  have hS2 := HZ1.out.read hb2 ho2
  have c45 := (ev_sig hS2.ev rfl).2
  have f45 := Blk.frozen hS2.ev 45
  have hp2 : RdC w P R E r2 k2 (sigE n1 n2) (w2.setCell ⟨E, 45, none⟩ (.int .i64 n2)) := hS2.put (set_sig (sigE n1 0) rfl n2).2
  have HP2 := Lib.hid hp2
  have HN2 := Lib.hid hn2
  have HR2 := Lib.hid (Nat.le_trans hsr2 HR1.out)
  have hg2 : ∀ f, Code s.data.toList f → n1 = f.r ∧ n2 = f.s ∧ r2.data.toList = tlE f ∧ k2 = true := fun f hf => by
    obtain ⟨g1, g2, g3⟩ := HG1.out f hf
    obtain ⟨g4, g5, g6⟩ := hw2 _ _ (by rw [g2]; exact tlS_num f hf.1)
    exact ⟨g1, g4, g5, by rw [g6, g3]⟩
  have HG2 := Lib.hid hg2
  clear hS2 hb2 ho2 hw2 hp2 hn2 hsr2 hg2 HZ1 HG1
  go_upto_region 5 with (fail)
  refine wp_gen (fun Z => RdC w P R E r2 k2 (sigE n1 n2) Z) HP2.out ?_
  intro Z2 hZ2
  have HZ2 := Lib.hid hZ2
  clear hZ2 c45 f45 HP2
  go_wp2_with fail
  refine (rrword_any r2 (by have := HR2.out; omega) k2 32 R Z2 HZ2.out.rdr).mono ?_
  rintro e w3 ⟨a3, r3, k3, rfl, hb3, ho3, _, hsr3, hw3⟩
  have hS3 := HZ2.out.read hb3 ho3
  obtain ⟨L, eL⟩ : ∃ L, L = w3.heap.size := ⟨_, rfl⟩
  have hl0 : RlS w P R E L s.data.toList s.size (sigE n1 n2) 0 (w3.alloc (.cells ((sigE n1 n2).nums.map iv).toArray 83)) := by
    have l1 := Blk.lt hS3.res
    have l2 := hS3.rdr.lt
    have l3 := Blk.lt hS3.ev
    have l4 := hS3.only.size
    refine ⟨sigE n1 n2, r3, k3, hS3.next ((Only.refl _ _).alloc _), by rw [eL]; exact Blk.new _ _ _, by omega, sigE_ok HN1.out HN2.out, ⟨rfl, rfl, rfl, rfl, rfl⟩, Nat.le_trans hsr3 HR2.out, fun f hf => ?_, fun f hf => ?_⟩
    · obtain ⟨g1, g2, g3, g4⟩ := HG2.out f hf
      obtain ⟨_, g5, _⟩ := hw3 _ _ (by rw [g3]; exact tlE_word f)
      exact ⟨⟨g1, g2, rfl⟩, g5⟩
    · obtain ⟨g1, g2, g3, g4⟩ := HG2.out f hf
      obtain ⟨_, _, g6⟩ := hw3 _ _ (by rw [g3]; exact tlE_word f)
      rw [g6, g4]
  have HL0 := Lib.hid hl0
  have EL := Lib.hid eL
  clear hS3 hb3 ho3 hsr3 hw3 hl0 HZ2 HG2 eL
  go_upto_region 7 with (fail)
  rw [← EL.out]
  refine wp_gen (fun Z => RlS w P R E L s.data.toList s.size (sigE n1 n2) 0 Z) HL0.out ?_
  intro Z3 hZ3
  have HZ3 := Lib.hid hZ3
  clear hZ3 HL0 EL HR1 HR2
  go_wp2_with fail
  go_loopw [7] (fun v W => ∃ k : Nat, v = .int .i64 (k : Int) ∧ k ≤ 10 ∧ RlS w P R E L s.data.toList s.size (sigE n1 n2) k W) (fun v _ => 10 - (intOf v).toNat)
  case atStart => exact ⟨0, rfl, by omega, HZ3.out⟩
  case round =>
    clear HZ3
    obtain ⟨k, rfl, hk, x, r, ok, hR⟩ := hrel
    have HR := Lib.hid hR
    clear hR
    by_cases hlt : k < 10
    · have ik0 : (0 : Int) ≤ (k : Int) := by omega
      have ik1 : (k : Int) < 10 := by omega
      have wk : IntKind.i64.wrap ((k : Int) + 1) = (k : Int) + 1 := IntWalk.i64_in _ (by omega)
      go_wp2_with fail
      refine (rrnumb_any r (by have := HR.out.size; omega) ok 32 blank_ok R wr HR.out.st.rdr).mono ?_
      rintro e w4 ⟨m, r', ok', rfl, hm, hb, ho, hsr, hw⟩
      have ha := HR.out.arr.only ho (fun e => HR.out.ne.2.1 e)
      obtain ⟨y, hy⟩ : ∃ y, x.nums[k]? = some y := ⟨_, List.getElem?_eq_getElem (by rw [nums_len]; exact hlt)⟩
      have ck : w4.cell? ⟨L, k, none⟩ = some (.int .i64 y) := by rw [ha.cell, List.getElem?_toArray, List.getElem?_map, hy]; rfl
      have fk := ha.frozen k
      have HSTEP := Lib.hid (HR.out.step hlt hm hb ho hsr hw)
      clear hb ho hsr hw ha hy hm HR
      go_wp2_with fail
      go_roundw
      case rel => exact ⟨k + 1, by go_num, by omega, ⟨_, _, _, HSTEP.out⟩⟩
      case measure => simp [intOf]; omega
    · obtain rfl : k = 10 := by omega
      have ik : ¬ ((10 : Nat) : Int) < 10 := by omega
      obtain ⟨e0, e0e⟩ : ∃ e0, e0 = sigE n1 n2 := ⟨_, rfl⟩
      have hm0 : RdC w P R E r ok (mixN e0 x 0) wr ∧ Blk wr L 83 (x.nums.map iv).toArray := by rw [e0e]; exact ⟨HR.out.st, HR.out.arr⟩
      have hLE : L ≠ E := HR.out.ne.2.2.1
      have hlow : w.heap.size ≤ L := HR.out.ne.2.2.2
      have HM0 := Lib.hid hm0
      have hsame := HR.out.same
      rw [← e0e] at hsame
      have HSAME := Lib.hid hsame
      have HX := Lib.hid HR.out.xok
      have HRS := Lib.hid HR.out.size
      have HGOT := Lib.hid HR.out.got
      clear hm0 hsame e0e HR
      obtain ⟨V0, rfl⟩ : ∃ V, V = wr := ⟨_, rfl⟩
      obtain ⟨v0, hv0⟩ := num_cell (mixN e0 x 0) 0 (by omega)
      have al0 : V0.cell? ⟨L, 0, none⟩ = some (.int .i64 x.seq) := (HM0.out.2.cell 0).trans rfl
      have ce0 : V0.cell? ⟨E, 0, none⟩ = some (.int .i64 v0) := (ev_cell HM0.out.1.ev 0).trans hv0
      have fe0 := Blk.frozen HM0.out.1.ev 0
      have hm1 : RdC w P R E r ok (mixN e0 x 1) (V0.setCell ⟨E, 0, none⟩ (.int .i64 x.seq)) ∧ Blk (V0.setCell ⟨E, 0, none⟩ (.int .i64 x.seq)) L 83 (x.nums.map iv).toArray := ⟨HM0.out.1.put (set_num (mixN e0 x 0) x.seq 0 (by omega)), HM0.out.2.far (p := ⟨E, 0, none⟩) hLE _⟩
      have HQ0 := Lib.hid hm1
      clear hm1 hv0
      go_upto_region 12 with (fail)
      refine wp_gen (fun Z => RdC w P R E r ok (mixN e0 x 1) Z ∧ Blk Z L 83 (x.nums.map iv).toArray) HQ0.out ?_
      intro V1 hV1
      have HM1 := Lib.hid hV1
      clear hV1 al0 ce0 fe0 HQ0 HM0
      obtain ⟨v1, hv1⟩ := num_cell (mixN e0 x 1) 1 (by omega)
      have al1 : V1.cell? ⟨L, 1, none⟩ = some (.int .i64 x.kind) := (HM1.out.2.cell 1).trans rfl
      have ce1 : V1.cell? ⟨E, 1, none⟩ = some (.int .i64 v1) := (ev_cell HM1.out.1.ev 1).trans hv1
      have fe1 := Blk.frozen HM1.out.1.ev 1
      have hm2 : RdC w P R E r ok (mixN e0 x 2) (V1.setCell ⟨E, 1, none⟩ (.int .i64 x.kind)) ∧ Blk (V1.setCell ⟨E, 1, none⟩ (.int .i64 x.kind)) L 83 (x.nums.map iv).toArray := ⟨HM1.out.1.put (set_num (mixN e0 x 1) x.kind 1 (by omega)), HM1.out.2.far (p := ⟨E, 1, none⟩) hLE _⟩
      have HQ1 := Lib.hid hm2
      clear hm2 hv1
      go_upto_region 13 with (fail)
      refine wp_gen (fun Z => RdC w P R E r ok (mixN e0 x 2) Z ∧ Blk Z L 83 (x.nums.map iv).toArray) HQ1.out ?_
      intro V2 hV2
      have HM2 := Lib.hid hV2
      clear hV2 al1 ce1 fe1 HQ1 HM1
      obtain ⟨v2, hv2⟩ := num_cell (mixN e0 x 2) 2 (by omega)
      have al2 : V2.cell? ⟨L, 2, none⟩ = some (.int .i64 x.who) := (HM2.out.2.cell 2).trans rfl
      have ce2 : V2.cell? ⟨E, 2, none⟩ = some (.int .i64 v2) := (ev_cell HM2.out.1.ev 2).trans hv2
      have fe2 := Blk.frozen HM2.out.1.ev 2
      have hm3 : RdC w P R E r ok (mixN e0 x 3) (V2.setCell ⟨E, 2, none⟩ (.int .i64 x.who)) ∧ Blk (V2.setCell ⟨E, 2, none⟩ (.int .i64 x.who)) L 83 (x.nums.map iv).toArray := ⟨HM2.out.1.put (set_num (mixN e0 x 2) x.who 2 (by omega)), HM2.out.2.far (p := ⟨E, 2, none⟩) hLE _⟩
      have HQ2 := Lib.hid hm3
      clear hm3 hv2
      go_upto_region 14 with (fail)
      refine wp_gen (fun Z => RdC w P R E r ok (mixN e0 x 3) Z ∧ Blk Z L 83 (x.nums.map iv).toArray) HQ2.out ?_
      intro V3 hV3
      have HM3 := Lib.hid hV3
      clear hV3 al2 ce2 fe2 HQ2 HM2
      obtain ⟨v3, hv3⟩ := num_cell (mixN e0 x 3) 3 (by omega)
      have al3 : V3.cell? ⟨L, 3, none⟩ = some (.int .i64 x.time) := (HM3.out.2.cell 3).trans rfl
      have ce3 : V3.cell? ⟨E, 3, none⟩ = some (.int .i64 v3) := (ev_cell HM3.out.1.ev 3).trans hv3
      have fe3 := Blk.frozen HM3.out.1.ev 3
      have hm4 : RdC w P R E r ok (mixN e0 x 4) (V3.setCell ⟨E, 3, none⟩ (.int .i64 x.time)) ∧ Blk (V3.setCell ⟨E, 3, none⟩ (.int .i64 x.time)) L 83 (x.nums.map iv).toArray := ⟨HM3.out.1.put (set_num (mixN e0 x 3) x.time 3 (by omega)), HM3.out.2.far (p := ⟨E, 3, none⟩) hLE _⟩
      have HQ3 := Lib.hid hm4
      clear hm4 hv3
      go_upto_region 15 with (fail)
      refine wp_gen (fun Z => RdC w P R E r ok (mixN e0 x 4) Z ∧ Blk Z L 83 (x.nums.map iv).toArray) HQ3.out ?_
      intro V4 hV4
      have HM4 := Lib.hid hV4
      clear hV4 al3 ce3 fe3 HQ3 HM3
      obtain ⟨v4, hv4⟩ := num_cell (mixN e0 x 4) 4 (by omega)
      have al4 : V4.cell? ⟨L, 4, none⟩ = some (.int .i64 x.bidder) := (HM4.out.2.cell 4).trans rfl
      have ce4 : V4.cell? ⟨E, 4, none⟩ = some (.int .i64 v4) := (ev_cell HM4.out.1.ev 4).trans hv4
      have fe4 := Blk.frozen HM4.out.1.ev 4
      have hm5 : RdC w P R E r ok (mixN e0 x 5) (V4.setCell ⟨E, 4, none⟩ (.int .i64 x.bidder)) ∧ Blk (V4.setCell ⟨E, 4, none⟩ (.int .i64 x.bidder)) L 83 (x.nums.map iv).toArray := ⟨HM4.out.1.put (set_num (mixN e0 x 4) x.bidder 4 (by omega)), HM4.out.2.far (p := ⟨E, 4, none⟩) hLE _⟩
      have HQ4 := Lib.hid hm5
      clear hm5 hv4
      go_upto_region 16 with (fail)
      refine wp_gen (fun Z => RdC w P R E r ok (mixN e0 x 5) Z ∧ Blk Z L 83 (x.nums.map iv).toArray) HQ4.out ?_
      intro V5 hV5
      have HM5 := Lib.hid hV5
      clear hV5 al4 ce4 fe4 HQ4 HM4
      obtain ⟨v5, hv5⟩ := num_cell (mixN e0 x 5) 5 (by omega)
      have al5 : V5.cell? ⟨L, 5, none⟩ = some (.int .i64 x.lot) := (HM5.out.2.cell 5).trans rfl
      have ce5 : V5.cell? ⟨E, 5, none⟩ = some (.int .i64 v5) := (ev_cell HM5.out.1.ev 5).trans hv5
      have fe5 := Blk.frozen HM5.out.1.ev 5
      have hm6 : RdC w P R E r ok (mixN e0 x 6) (V5.setCell ⟨E, 5, none⟩ (.int .i64 x.lot)) ∧ Blk (V5.setCell ⟨E, 5, none⟩ (.int .i64 x.lot)) L 83 (x.nums.map iv).toArray := ⟨HM5.out.1.put (set_num (mixN e0 x 5) x.lot 5 (by omega)), HM5.out.2.far (p := ⟨E, 5, none⟩) hLE _⟩
      have HQ5 := Lib.hid hm6
      clear hm6 hv5
      go_upto_region 17 with (fail)
      refine wp_gen (fun Z => RdC w P R E r ok (mixN e0 x 6) Z ∧ Blk Z L 83 (x.nums.map iv).toArray) HQ5.out ?_
      intro V6 hV6
      have HM6 := Lib.hid hV6
      clear hV6 al5 ce5 fe5 HQ5 HM5
      obtain ⟨v6, hv6⟩ := num_cell (mixN e0 x 6) 6 (by omega)
      have al6 : V6.cell? ⟨L, 6, none⟩ = some (.int .i64 x.n) := (HM6.out.2.cell 6).trans rfl
      have ce6 : V6.cell? ⟨E, 6, none⟩ = some (.int .i64 v6) := (ev_cell HM6.out.1.ev 6).trans hv6
      have fe6 := Blk.frozen HM6.out.1.ev 6
      have hm7 : RdC w P R E r ok (mixN e0 x 7) (V6.setCell ⟨E, 6, none⟩ (.int .i64 x.n)) ∧ Blk (V6.setCell ⟨E, 6, none⟩ (.int .i64 x.n)) L 83 (x.nums.map iv).toArray := ⟨HM6.out.1.put (set_num (mixN e0 x 6) x.n 6 (by omega)), HM6.out.2.far (p := ⟨E, 6, none⟩) hLE _⟩
      have HQ6 := Lib.hid hm7
      clear hm7 hv6
      go_upto_region 18 with (fail)
      refine wp_gen (fun Z => RdC w P R E r ok (mixN e0 x 7) Z ∧ Blk Z L 83 (x.nums.map iv).toArray) HQ6.out ?_
      intro V7 hV7
      have HM7 := Lib.hid hV7
      clear hV7 al6 ce6 fe6 HQ6 HM6
      obtain ⟨v7, hv7⟩ := num_cell (mixN e0 x 7) 7 (by omega)
      have al7 : V7.cell? ⟨L, 7, none⟩ = some (.int .i64 x.other) := (HM7.out.2.cell 7).trans rfl
      have ce7 : V7.cell? ⟨E, 7, none⟩ = some (.int .i64 v7) := (ev_cell HM7.out.1.ev 7).trans hv7
      have fe7 := Blk.frozen HM7.out.1.ev 7
      have hm8 : RdC w P R E r ok (mixN e0 x 8) (V7.setCell ⟨E, 7, none⟩ (.int .i64 x.other)) ∧ Blk (V7.setCell ⟨E, 7, none⟩ (.int .i64 x.other)) L 83 (x.nums.map iv).toArray := ⟨HM7.out.1.put (set_num (mixN e0 x 7) x.other 7 (by omega)), HM7.out.2.far (p := ⟨E, 7, none⟩) hLE _⟩
      have HQ7 := Lib.hid hm8
      clear hm8 hv7
      go_upto_region 19 with (fail)
      refine wp_gen (fun Z => RdC w P R E r ok (mixN e0 x 8) Z ∧ Blk Z L 83 (x.nums.map iv).toArray) HQ7.out ?_
      intro V8 hV8
      have HM8 := Lib.hid hV8
      clear hV8 al7 ce7 fe7 HQ7 HM7
      obtain ⟨v8, hv8⟩ := num_cell (mixN e0 x 8) 8 (by omega)
      have al8 : V8.cell? ⟨L, 8, none⟩ = some (.int .i64 x.sx) := (HM8.out.2.cell 8).trans rfl
      have ce8 : V8.cell? ⟨E, 10, none⟩ = some (.int .i64 v8) := (ev_cell HM8.out.1.ev 10).trans hv8
      have fe8 := Blk.frozen HM8.out.1.ev 10
      have hm9 : RdC w P R E r ok (mixN e0 x 9) (V8.setCell ⟨E, 10, none⟩ (.int .i64 x.sx)) ∧ Blk (V8.setCell ⟨E, 10, none⟩ (.int .i64 x.sx)) L 83 (x.nums.map iv).toArray := ⟨HM8.out.1.put (set_num (mixN e0 x 8) x.sx 8 (by omega)), HM8.out.2.far (p := ⟨E, 10, none⟩) hLE _⟩
      have HQ8 := Lib.hid hm9
      clear hm9 hv8
      go_upto_region 20 with (fail)
      refine wp_gen (fun Z => RdC w P R E r ok (mixN e0 x 9) Z ∧ Blk Z L 83 (x.nums.map iv).toArray) HQ8.out ?_
      intro V9 hV9
      have HM9 := Lib.hid hV9
      clear hV9 al8 ce8 fe8 HQ8 HM8
      obtain ⟨v9, hv9⟩ := num_cell (mixN e0 x 9) 9 (by omega)
      have al9 : V9.cell? ⟨L, 9, none⟩ = some (.int .i64 x.sy) := (HM9.out.2.cell 9).trans rfl
      have ce9 : V9.cell? ⟨E, 11, none⟩ = some (.int .i64 v9) := (ev_cell HM9.out.1.ev 11).trans hv9
      have fe9 := Blk.frozen HM9.out.1.ev 11
      have hm10 : RdC w P R E r ok (mixN e0 x 10) (V9.setCell ⟨E, 11, none⟩ (.int .i64 x.sy)) ∧ Blk (V9.setCell ⟨E, 11, none⟩ (.int .i64 x.sy)) L 83 (x.nums.map iv).toArray := ⟨HM9.out.1.put (set_num (mixN e0 x 9) x.sy 9 (by omega)), HM9.out.2.far (p := ⟨E, 11, none⟩) hLE _⟩
      have HQ9 := Lib.hid hm10
      clear hm10 hv9
      go_upto_region 21 with (fail)
      refine wp_gen (fun Z => RdC w P R E r ok (mixN e0 x 10) Z ∧ Blk Z L 83 (x.nums.map iv).toArray) HQ9.out ?_
      intro V10 hV10
      have HM10 := Lib.hid hV10
      clear hV10 al9 ce9 fe9 HQ9 HM9
      have hx : RdC w P R E r ok x V10 := by have h := HM10.out.1; rw [mixN_all HSAME.out] at h; exact h
      have HXS := Lib.hid hx
      clear hx HM10 hLE
      go_wp2_with fail
      refine (rrword_any r (by have := HRS.out; omega) ok 32 R V10 HXS.out.rdr).mono ?_
      rintro e w5 ⟨a5, r5, k5, rfl, hb5, ho5, hsa5, hsr5, hw5⟩
      have HS5 := Lib.hid (HXS.out.read hb5 ho5)
      have HSR5 := Lib.hid (Nat.le_trans hsr5 HRS.out)
      have hg5 : ∀ f, Code s.data.toList f → Agrees 10 x f ∧ a5.data.toList = hexL f.prev ∧ r5.data.toList = tlQ f ∧ k5 = true := fun f hf => by
        obtain ⟨g1, g2⟩ := HGOT.out.1 f hf
        obtain ⟨g3, g4, g5⟩ := hw5 _ _ (by rw [g2]; exact tlH_word f)
        exact ⟨g1, g3, g4, by rw [g5]; exact HGOT.out.2 f hf⟩
      have HG5 := Lib.hid hg5
      clear hb5 ho5 hsr5 hw5 hg5 HXS HGOT
      go_wp2_with fail
      refine (rread09_any a5 (by have := HRS.out; omega) w5).mono ?_
      rintro e w6 ⟨H, hk, rfl, hH, hhx, ho6⟩
      obtain ⟨X6, eX6⟩ : ∃ X, X = (w6.alloc (.cells (zero32.map bv).toArray tHsh)).setCells w6.heap.size 0 (H.map bv) := ⟨_, rfl⟩
      have hst : (hxStore (.pointer (some ⟨w6.heap.size, 0, none⟩)) (.agg (H.map bv).toArray)).run Tryz.prog (w6.alloc (.cells #[.int .u8 0, .int .u8 0, .int .u8 0, .int .u8 0, .int .u8 0, .int .u8 0, .int .u8 0, .int .u8 0, .int .u8 0, .int .u8 0, .int .u8 0, .int .u8 0, .int .u8 0, .int .u8 0, .int .u8 0, .int .u8 0, .int .u8 0, .int .u8 0, .int .u8 0, .int .u8 0, .int .u8 0, .int .u8 0, .int .u8 0, .int .u8 0, .int .u8 0, .int .u8 0, .int .u8 0, .int .u8 0, .int .u8 0, .int .u8 0, .int .u8 0, .int .u8 0] tHsh)) = .ok () ((w6.alloc (.cells (zero32.map bv).toArray tHsh)).setCells w6.heap.size 0 (H.map bv)) := hx_store (Blk.new w6 tHsh (zero32.map bv).toArray) zero32_len hH
      rw [← eX6] at hst
      have hoX : Only NoneOf w6 X6 := by rw [eX6]; exact only_setCells ((Only.refl NoneOf w6).alloc _) _ _ (.inr (Nat.le_refl _)) _
      obtain ⟨G, eG⟩ : ∃ G, G = w6.heap.size := ⟨_, rfl⟩
      have hbX : Blk X6 G tHsh (H.map bv).toArray := by rw [eX6, eG]; exact (Blk.new w6 tHsh (zero32.map bv).toArray).filled _ (by rw [List.length_map, List.length_map, hH, zero32_len])
      have hGE : G ≠ E := by have h1 := Blk.lt (HS5.out.next ho6).ev; omega
      have HX6 := Lib.hid (And.intro ((HS5.out.next ho6).next hoX) hbX)
      have HH := Lib.hid hH
      have HHX := Lib.hid hhx
      have EG := Lib.hid eG
      clear hoX hbX eX6 hH hhx ho6 HS5 eG
      go_upto_region 22 with (fail)
      rw [← EG.out]
      refine wp_gen (fun Z => RdC w P R E r5 k5 x Z ∧ Blk Z G tHsh (H.map bv).toArray) HX6.out ?_
      rintro Z6 ⟨hz1, hz2⟩
      have hl := hx_load (hx_range hz2) HH.out
      obtain ⟨hst6, hz3⟩ := hz1.hash HX.out.prev HH.out
      have HZ6 := Lib.hid hz3
      clear hst HX6 EG hz1 hz2 hz3
      go_upto_region 23 with (fail)
      refine wp_gen (fun Z => RdC w P R E r5 k5 { x with prev := H } Z) HZ6.out ?_
      intro Z7 hZ7
      have HZ7 := Lib.hid hZ7
      clear hl hst6 HZ6 hZ7
      go_wp2_with fail
      refine (rrtext_any r5 (by have := HSR5.out; omega) k5 R Z7 HZ7.out.rdr).mono ?_
      rintro e w7 ⟨a7, r7, k7, rfl, hb7, ho7, hsa7, hsr7, hw7⟩
      have hS7 := HZ7.out.read hb7 ho7
      have c8 : w7.cell? ⟨E, 8, none⟩ = some (.string x.name) := ev_cell hS7.ev 8
      have f8 := Blk.frozen hS7.ev 8
      have hp7 : RdC w P R E r7 k7 { x with prev := H, name := a7 } (w7.setCell ⟨E, 8, none⟩ (.string a7)) := hS7.put (set_name { x with prev := H } a7).1
      have HP7 := Lib.hid hp7
      have HSA7 := Lib.hid (Nat.le_trans hsa7 HSR5.out)
      have HSR7 := Lib.hid (Nat.le_trans hsr7 HSR5.out)
      have hg7 : ∀ f, Code s.data.toList f → Agrees 10 x f ∧ H = f.prev ∧ hk = true ∧ a7.data.toList = f.name.data.toList ∧ r7.data.toList = 32 :: tlT f ∧ k7 = true := fun f hf => by
        obtain ⟨g1, g2, g3, g4⟩ := HG5.out f hf
        obtain ⟨g5, g6⟩ := HHX.out f.prev hf.1.prev g2
        obtain ⟨g7, g8, g9⟩ := hw7 g4 _ _ (by rw [g3]; exact tlQ_quo (HSH.out f hf).1)
        exact ⟨g1, g5, g6, g7, g8, g9⟩
      have HG7 := Lib.hid hg7
      clear hS7 hb7 ho7 hsa7 hsr7 hw7 hp7 hg7 HZ7 HG5 HHX
      go_upto_region 24 with (fail)
      refine wp_gen (fun Z => RdC w P R E r7 k7 { x with prev := H, name := a7 } Z) HP7.out ?_
      intro Z8 hZ8
      have HZ8 := Lib.hid hZ8
      clear c8 f8 hZ8 HP7
      go_wp2_with fail
      refine (rrword_any r7 (by have := HSR7.out; omega) k7 32 R Z8 HZ8.out.rdr).mono ?_
      rintro e w8 ⟨a8, r8, k8, rfl, hb8, ho8, _, hsr8, hw8⟩
      have HS8 := Lib.hid (HZ8.out.read hb8 ho8)
      have HSR8 := Lib.hid (Nat.le_trans hsr8 HSR7.out)
      have hg8 : ∀ f, Code s.data.toList f → Agrees 10 x f ∧ H = f.prev ∧ hk = true ∧ a7.data.toList = f.name.data.toList ∧ r8.data.toList = tlT f ∧ k8 = true := fun f hf => by
        obtain ⟨g1, g2, g3, g4, g5, g6⟩ := HG7.out f hf
        obtain ⟨_, g7, g8⟩ := hw8 _ _ (by rw [g5]; exact tlT_word f)
        exact ⟨g1, g2, g3, g4, g7, by rw [g8, g6]⟩
      have HG8 := Lib.hid hg8
      clear hb8 ho8 hsr8 hw8 hg8 HZ8 HG7
      go_wp2_with fail
      refine (rrtext_any r8 (by have := HSR8.out; omega) k8 R w8 HS8.out.rdr).mono ?_
      rintro e w9 ⟨a9, r9, k9, rfl, hb9, ho9, hsa9, hsr9, hw9⟩
      have hS9 := HS8.out.read hb9 ho9
      have c9 : w9.cell? ⟨E, 9, none⟩ = some (.string x.text) := ev_cell hS9.ev 9
      have f9 := Blk.frozen hS9.ev 9
      obtain ⟨u, eu⟩ : ∃ u : Ev, u = { x with prev := H, name := a7, text := a9 } := ⟨_, rfl⟩
      have hp9 : RdC w P R E r9 k9 u (w9.setCell ⟨E, 9, none⟩ (.string a9)) := by rw [eu]; exact hS9.put (set_name { x with prev := H, name := a7 } a9).2
      have HP9 := Lib.hid hp9
      have huok : u.Ok := by
        obtain ⟨o1, o2, o3, o4, o5, o6, o7, o8, o9, o10, o11, o12, o13⟩ := HX.out
        rw [eu]
        exact ⟨o1, o2, o3, o4, o5, o6, o7, o8, o9, o10, HH.out, o12, o13⟩
      have hun : u.name.size ≤ s.size := by rw [eu]; exact HSA7.out
      have hut : u.text.size ≤ s.size := by rw [eu]; exact Nat.le_trans hsa9 HSR8.out
      have hg9 : ∀ f, Code s.data.toList f → u = f ∧ hk = true ∧ k9 = true := fun f hf => by
        obtain ⟨g1, g2, g3, g4, g5, g6⟩ := HG8.out f hf
        obtain ⟨g7, g8, g9⟩ := hw9 g6 _ _ (by rw [g5]; exact tlT_quo (HSH.out f hf).2)
        refine ⟨?_, g3, g9⟩
        rw [eu]
        exact Agrees.all (e := { x with prev := H, name := a7, text := a9 }) ⟨g1.1, g1.2.1, g1.2.2⟩ g2 (bytes_ext g4) (bytes_ext g7)
      have HUOK := Lib.hid huok
      have HUN := Lib.hid hun
      have HUT := Lib.hid hut
      have HG9 := Lib.hid hg9
      clear hS9 hb9 ho9 hsa9 hsr9 hw9 hp9 hg9 eu huok hun hut HS8 HG8 HX HH HSA7 HSR7 HSR8
      go_upto_region 26 with (fail)
      refine wp_gen (fun Z => RdC w P R E r9 k9 u Z) HP9.out ?_
      intro Z9 hZ9
      have HZ9 := Lib.hid hZ9
      clear c9 f9 hZ9 HP9
      have hr9 := HZ9.out.rdr.cell 1
      cases k9 with
      | false =>
        have HNO : Hid (∀ f, Code s.data.toList f → False) := Lib.hid (fun f hf => by cases (HG9.out f hf).2.2)
        clear HG9
        have hz := evZero_run Z9
        obtain ⟨hst, hb, ho⟩ := ev_fill (HZ9.out.res) (HZ9.out.only) HZ9.out.lo.1 rfl (f := blank0) rfl
        have HB := Lib.hid hb
        have HO := Lib.hid ho
        clear hb ho
        go_wp2_with fail
        exact bodyPost_ret (read_evt rfl rfl rfl HB.out rfl) rfl ⟨blank0, 11, rfl, .inr ⟨rfl, rfl, fun f hf hc => HNO.out f ⟨hf, hc⟩⟩, blank0_ok, Nat.zero_le _, Nat.zero_le _, HO.out⟩
      | true =>
        cases hk with
        | false =>
          have HNO : Hid (∀ f, Code s.data.toList f → False) := Lib.hid (fun f hf => by cases (HG9.out f hf).2.1)
          clear HG9
          have hz := evZero_run Z9
          obtain ⟨hst, hb, ho⟩ := ev_fill (HZ9.out.res) (HZ9.out.only) HZ9.out.lo.1 rfl (f := blank0) rfl
          have HB := Lib.hid hb
          have HO := Lib.hid ho
          clear hb ho
          go_wp2_with fail
          exact bodyPost_ret (read_evt rfl rfl rfl HB.out rfl) rfl ⟨blank0, 11, rfl, .inr ⟨rfl, rfl, fun f hf hc => HNO.out f ⟨hf, hc⟩⟩, blank0_ok, Nat.zero_le _, Nat.zero_le _, HO.out⟩
        | true =>
          have hl := ev_load HZ9.out.ev HUOK.out.prev
          go_wp2_with fail
          refine (rencode_any u HUOK.out (by have := HUN.out; omega) (by have := HUT.out; omega) Z9).mono ?_
          rintro e w10 ⟨t, rfl, ht, ho10⟩
          have HT := Lib.hid ht
          have HZ10 := Lib.hid (HZ9.out.next ho10)
          clear ht ho10 hl hr9
          by_cases heq : t.data.toList = s.data.toList
          · have hq : (t.toList == s.toList) = true := by
              rw [Lib.toList_data, Lib.toList_data]; exact beq_iff_eq.2 heq
            have HQ := Lib.hid heq
            have hl := ev_load HZ10.out.ev HUOK.out.prev
            obtain ⟨hst, hb, ho⟩ := ev_fill (HZ10.out.res) (HZ10.out.only) HZ10.out.lo.1 rfl (f := u) HUOK.out.prev
            have HB := Lib.hid hb
            have HO := Lib.hid ho
            clear hb ho heq
            go_wp2_with fail
            exact bodyPost_ret (read_evt rfl rfl rfl HB.out HUOK.out.prev) rfl ⟨u, 0, rfl, .inl ⟨rfl, HUOK.out, by rw [← HQ.out, HT.out]⟩, HUOK.out, HUN.out, HUT.out, HO.out⟩
          · have hq : (t.toList == s.toList) = false := by
              rw [Lib.toList_data, Lib.toList_data]; exact beq_eq_false_iff_ne.2 heq
            have HNO : Hid (∀ f, Code s.data.toList f → False) := Lib.hid (fun f hf => heq (by rw [HT.out, (HG9.out f hf).1, hf.2]))
            clear HG9 heq
            have hz := evZero_run w10
            obtain ⟨hst, hb, ho⟩ := ev_fill (HZ10.out.res) (HZ10.out.only) HZ10.out.lo.1 rfl (f := blank0) rfl
            have HB := Lib.hid hb
            have HO := Lib.hid ho
            clear hb ho
            go_wp2_with fail
            exact bodyPost_ret (read_evt rfl rfl rfl HB.out rfl) rfl ⟨blank0, 11, rfl, .inr ⟨rfl, rfl, fun f hf hc => HNO.out f ⟨hf, hc⟩⟩, blank0_ok, Nat.zero_le _, Nat.zero_le _, HO.out⟩
end Go.Proofs.YtclpebgjmgfigaaGreatDoor
