/- What is proved here: the law on codes of events answers true. Conditions: the library's variables hold what their initialisers lay; names and texts are short. -/
import Derived.Test.YtclpebgjmgfigaaGreatDoorEcS
import Derived.Test.YtclpebgjmgfigaaGreatDoorEcO
import Derived.Test.YtclpebgjmgfigaaGreatDoorEqE
import Derived.BigRegion
import Derived.Deep.RegionHeld3
namespace Go.Proofs.YtclpebgjmgfigaaGreatDoor
open Go.RowKit Go.Shelf
attribute [local go_sem ↓ high] evStore_eq evLoad_eq
theorem Buf.at_ {w : World} {e : TypeId} {g n c : Nat} {l : List UInt8} (h : Buf w e (.slice (some ⟨g, 0, none⟩) n c) l) {i : Nat} (hi : i < n) : (∃ x, w.cell? ⟨g, i, none⟩ = some (bv x)) ∧ w.frozen? ⟨g, i, none⟩ = false := by
  obtain ⟨g', cap', cur, lo, hi', hv, hh, hcs, hc, hm, hz, ht⟩ := h
  simp only [Value.slice.injEq, Option.some.injEq, Addr.mk.injEq, and_true] at hv
  obtain ⟨rfl, rfl, rfl⟩ := hv
  have hb : Buf w e (.slice (some ⟨g, 0, none⟩) l.length c) l := ⟨g, c, cur, lo, hi', rfl, hh, hcs, hc, hm, hz, ht⟩
  refine ⟨⟨l[i], ?_⟩, ?_⟩
  · have h1 := hb.bytes i _ (List.getElem?_eq_getElem hi)
    rwa [Nat.zero_add] at h1
  · unfold World.frozen?
    simp only [hh]
    rcases hz with hz | hz
    · simp; omega
    · simp [hz]
theorem Buf.put_ {w : World} {e : TypeId} {g n c : Nat} {l : List UInt8} (h : Buf w e (.slice (some ⟨g, 0, none⟩) n c) l) (i : Nat) (y : UInt8) : Buf (w.setCell ⟨g, i, none⟩ (bv y)) e (.slice (some ⟨g, 0, none⟩) n c) (l.set i y) := by
  obtain ⟨g', cap', cur, lo, hi', hv, hh, hcs, hc, hm, hz, ht⟩ := h
  simp only [Value.slice.injEq, Option.some.injEq, Addr.mk.injEq, and_true] at hv
  obtain ⟨rfl, rfl, rfl⟩ := hv
  refine ⟨g, c, cur.setIfInBounds i (bv y), lo, hi', by rw [List.length_set], ?_, by simpa using hcs, by rw [List.length_set]; exact hc, hm, hz, ?_⟩
  · simp [World.setCell, Array.getElem?_modify, hh]
  · rw [Array.toList_setIfInBounds, List.length_set, List.take_set, ht, List.map_set]
theorem code_len {e : Ev} (he : e.Ok) (hb : e.name.size + e.text.size ≤ 1048576) : 1 ≤ (evCode e).length ∧ (evCode e).length ≤ 1049376 := by
  have l1 := numsL_len e.nums he.nums_in
  have l2 := hexL_len e.prev
  have l3 := quoL_len e.name.data.toList (by rw [← size_list]; omega)
  have l4 := quoL_len e.text.data.toList (by rw [← size_list]; omega)
  have l6 := numsL_len [e.r, e.s] (by
    intro x hx
    simp only [List.mem_cons, List.not_mem_nil, or_false] at hx
    rcases hx with rfl | rfl
    · exact he.r
    · exact he.s)
  rw [← size_list] at l3 l4
  rw [he.prev] at l2
  have l5 : e.nums.length = 10 := rfl
  unfold evCode evText
  simp only [List.length_append, List.length_cons, List.length_nil] at l6 ⊢
  omega
theorem EnvA.e3 {w : World} (h : EnvA w) : Env3 w := ⟨h.tab, h.shp⟩
structure CoS (w : World) (B Q : Nat) (e : Ev) (q0 q1 q2 : Nat) (W : World) : Prop where
  at_ : EvAt W B e
  q : Blk W Q 35 #[.int .u16 (q0 : Int), .int .u16 (q1 : Int), .int .u16 (q2 : Int)]
  only : Only NoneOf w W
theorem CoS.next {w W W' : World} {B Q : Nat} {e : Ev} {q0 q1 q2 : Nat} (h : CoS w B Q e q0 q1 q2 W) (ho : Only NoneOf W W') : CoS w B Q e q0 q1 q2 W' := ⟨Blk.only h.at_ ho (fun e => e), h.q.only ho (fun e => e), h.only.trans ho⟩
/-- The texts that are decoded. -/
def sevenC (b s raw : ByteArray) (k : Nat) : List ByteArray := [b, s.extract 0 k, s ++ raw, raw, s.extract 0 k ++ raw ++ s.extract k s.size, ⟨#[48]⟩ ++ s, s ++ ⟨#[32]⟩]
theorem sevenC_size {b s raw : ByteArray} {k n : Nat} (hs : s.size ≤ 1049376) (hb : b.size = s.size) (hr : raw.size ≤ 1048576) {t : ByteArray} (h : (sevenC b s raw k)[n]? = some t) : t.size ≤ 40000000 := by
  have hm := List.mem_of_getElem? h
  have e1 : (⟨#[48]⟩ : ByteArray).size = 1 := rfl
  have e2 : (⟨#[32]⟩ : ByteArray).size = 1 := rfl
  simp only [sevenC, List.mem_cons, List.not_mem_nil, or_false] at hm
  rcases hm with rfl | rfl | rfl | rfl | rfl | rfl | rfl <;> (try simp only [ByteArray.size_append, ByteArray.size_extract, e1, e2]) <;> omega
/-- What the loop keeps. -/
structure ClS (w : World) (B Q G : Nat) (e : Ev) (q0 q1 q2 : Nat) (cs : Array Value) (W : World) : Prop where
  co : CoS w B Q e q0 q1 q2 W
  lst : Blk W G 9 cs
theorem ClS.next {w W W' : World} {B Q G : Nat} {e : Ev} {q0 q1 q2 : Nat} {cs : Array Value} (h : ClS w B Q G e q0 q1 q2 cs W) (ho : Only NoneOf W W') : ClS w B Q G e q0 q1 q2 cs W' := ⟨h.co.next ho, h.lst.only ho (fun e => e)⟩
structure CfS (w : World) (B Q G N1 N2 : Nat) (e x : Ev) (q0 q1 q2 : Nat) (cs : Array Value) (W : World) : Prop where
  cl : ClS w B Q G e q0 q1 q2 cs W
  one : EvAt W N1 x
  two : EvAt W N2 x
theorem CfS.next {w W W' : World} {B Q G N1 N2 : Nat} {e x : Ev} {q0 q1 q2 : Nat} {cs : Array Value} (h : CfS w B Q G N1 N2 e x q0 q1 q2 cs W) (ho : Only NoneOf W W') : CfS w B Q G N1 N2 e x q0 q1 q2 cs W' := ⟨h.cl.next ho, Blk.only h.one ho (fun e => e), Blk.only h.two ho (fun e => e)⟩
/-- An event laid into a new block. -/
theorem ev_lay (W : World) {f : Ev} (hf : f.prev.length = 32) : (evStore (.pointer (some ⟨W.heap.size, 0, none⟩)) (.agg (evC f).toArray)).run Tryz.prog (W.alloc (.cells (evC blank0).toArray tEv)) = .ok () ((W.alloc (.cells (evC blank0).toArray tEv)).setCells W.heap.size 0 (evC f)) ∧ EvAt ((W.alloc (.cells (evC blank0).toArray tEv)).setCells W.heap.size 0 (evC f)) W.heap.size f ∧ Only NoneOf W ((W.alloc (.cells (evC blank0).toArray tEv)).setCells W.heap.size 0 (evC f)) :=
  ⟨ev_store (cs := evC blank0) (Blk.new W tEv (evC blank0).toArray) rfl hf, setCells_own (Blk.new W tEv (evC blank0).toArray) (by rw [evC_len hf]; rfl), only_setCells ((Only.refl NoneOf W).alloc _) _ _ (.inr (Nat.le_refl _)) _⟩
set_option maxRecDepth 100000 in
set_option maxHeartbeats 8000000 in
theorem ecodes_law (e : Ev) (he : e.Ok) (hb : e.name.size + e.text.size ≤ 1048576) (raw : ByteArray) (q0 q1 q2 : Nat) (hraw : raw.size ≤ 1048576) (b0 : q0 < 65536) (_b1 : q1 < 65536) (b2 : q2 < 65536) (w : World) (hE : EnvA w) : Calls Tryz.prog 4 #[.agg (evC e).toArray, .string raw, .agg #[.int .u16 (q0 : Int), .int .u16 (q1 : Int), .int .u16 (q2 : Int)]] w fun e' w' => e' = .returned (.bool true) ∧ Only NoneOf w w' := by
  have hY : CoS w w.heap.size (w.heap.size + 1) e q0 q1 q2 ((w.alloc (.cells (evC e).toArray tEv)).alloc (.cells #[.int .u16 (q0 : Int), .int .u16 (q1 : Int), .int .u16 (q2 : Int)] 35)) := by
    have h2 := Blk.new (w.alloc (.cells (evC e).toArray tEv)) 35 #[.int .u16 (q0 : Int), .int .u16 (q1 : Int), .int .u16 (q2 : Int)]
    rw [World.size_alloc] at h2
    exact ⟨(Blk.new w _ _).alloc _, h2, ((Only.refl _ _).alloc _).alloc _⟩
  obtain ⟨B, eB⟩ : ∃ B, B = w.heap.size := ⟨_, rfl⟩
  have hcl := code_len he hb
  have HY := Lib.hid hY
  have HE := Lib.hid hE
  have EB := Lib.hid eB
  have HEV := Lib.hid he
  have HSZ := Lib.hid hb
  have HCL := Lib.hid hcl
  clear hY hE eB he hb hcl
  go_enter Tryz.func4, Tryz.ntmps4
  go_wp2_with fail
  refine calls_gen (fun Y => CoS w w.heap.size (w.heap.size + 1) e q0 q1 q2 Y) HY.out ?_
  intro Y hS
  rw [← EB.out] at hS ⊢
  obtain ⟨Q, eQ⟩ : ∃ Q, Q = B + 1 := ⟨_, rfl⟩
  rw [← eQ] at hS ⊢
  have HS := Lib.hid hS
  clear hS HY EB eQ
  refine (sanity_any Y (HE.out.none HS.out.only).e3).mono ?_
  rintro e' w1 ⟨rfl, ho1⟩
  have HS1 := Lib.hid (HS.out.next ho1)
  have hl := ev_load HS1.out.at_ HEV.out.prev
  clear ho1 HS
  go_wp2_with fail
  refine (eencode_any e HEV.out (by have := HSZ.out; omega) (by have := HSZ.out; omega) w1 (HE.out.none HS1.out.only).tab).mono ?_
  rintro e' w2 ⟨s, rfl, hs, ho2⟩
  have hss : s.size ≤ 1049376 := by rw [size_list, hs]; exact HCL.out.2
  have hsp : 1 ≤ s.size := by rw [size_list, hs]; exact HCL.out.1
  have HSC := Lib.hid hs
  have HS2 := Lib.hid (HS1.out.next ho2)
  clear hs ho2 hl HS1
  go_wp2_with fail
  refine (pdecode23_any s (by omega) w2 (HE.out.none HS2.out.only)).mono ?_
  rintro e' w3 ⟨u, code, rfl, hcr, _, _, _, ho3⟩
  obtain ⟨hcode, hue⟩ := CodR.two (show s.data.toList.length ≤ 100000000 by rw [← size_list]; omega) hcr (.inl ⟨rfl, HEV.out, HSC.out⟩)
  obtain rfl : e = u := hue.symm
  subst hcode
  have HS3 := Lib.hid (HS2.out.next ho3)
  obtain ⟨X3, eX3⟩ : ∃ X, X = (w3.alloc (.cells (evC blank0).toArray tEv)).setCells w3.heap.size 0 (evC e) := ⟨_, rfl⟩
  have hst : (evStore (.pointer (some ⟨w3.heap.size, 0, none⟩)) (.agg (evC e).toArray)).run Tryz.prog (w3.alloc (.cells #[.int .i64 0, .int .i64 0, .int .i64 0, .int .i64 0, .int .i64 0, .int .i64 0, .int .i64 0, .int .i64 0, .string ⟨#[]⟩, .string ⟨#[]⟩, .int .i64 0, .int .i64 0, .int .u8 0, .int .u8 0, .int .u8 0, .int .u8 0, .int .u8 0, .int .u8 0, .int .u8 0, .int .u8 0, .int .u8 0, .int .u8 0, .int .u8 0, .int .u8 0, .int .u8 0, .int .u8 0, .int .u8 0, .int .u8 0, .int .u8 0, .int .u8 0, .int .u8 0, .int .u8 0, .int .u8 0, .int .u8 0, .int .u8 0, .int .u8 0, .int .u8 0, .int .u8 0, .int .u8 0, .int .u8 0, .int .u8 0, .int .u8 0, .int .u8 0, .int .u8 0, .int .i64 0, .int .i64 0] 29)) = .ok () ((w3.alloc (.cells (evC blank0).toArray tEv)).setCells w3.heap.size 0 (evC e)) := ev_store (cs := evC blank0) (Blk.new w3 tEv (evC blank0).toArray) rfl HEV.out.prev
  dsimp only at hst
  rw [← eX3] at hst
  obtain ⟨D, eD⟩ : ∃ D, D = w3.heap.size := ⟨_, rfl⟩
  have hoX : Only NoneOf w3 X3 := by rw [eX3]; exact only_setCells ((Only.refl NoneOf w3).alloc _) _ _ (.inr (Nat.le_refl _)) _
  have hbX : EvAt X3 D e := by rw [eX3, eD]; exact setCells_own (Blk.new w3 tEv (evC blank0).toArray) (by rw [evC_len HEV.out.prev]; rfl)
  have HX3 := Lib.hid (And.intro (HS3.out.next hoX) hbX)
  have ED := Lib.hid eD
  clear hcr ho3 hoX hbX eX3 eD HS2 HS3 hue
  go_upto_region 4 with (fail)
  rw [← ED.out]
  refine wp_gen (fun Z => CoS w B Q e q0 q1 q2 Z ∧ EvAt Z D e) HX3.out ?_
  rintro Z3 ⟨hz1, hz2⟩
  have hl1 := ev_load hz1.at_ HEV.out.prev
  have hl2 := ev_load hz2 HEV.out.prev
  have hne : ∀ W, (binOp .neq 29 (.agg (evC e).toArray) (.agg (evC e).toArray)).run Tryz.prog W = .ok (.bool false) W := fun W => by
    rw [neq_ev e e HEV.out.prev HEV.out.prev, sameE_true.2 rfl]; rfl
  have hemp : s.toList.isEmpty = false := by
    rw [Lib.toList_data, List.isEmpty_eq_false_iff]
    intro h0
    have h1 := size_list s
    rw [h0, List.length_nil] at h1
    omega
  have HZ3 := Lib.hid hz1
  clear hst HX3 ED hz1 hz2
  go_upto_region 6 with (fail)
  clear hl1 hl2 hne hemp
  have htp : ¬ (s.size : Int) = 0 := by omega
  have htp2 : (0 : Int) < (s.size : Int) := by omega
  have wq0 : IntKind.i64.wrap (q0 : Int) = (q0 : Int) := IntWalk.i64_in _ (by omega)
  have wq2 : IntKind.i64.wrap (q2 : Int) = (q2 : Int) := IntWalk.i64_in _ (by omega)
  obtain ⟨a, ea⟩ : ∃ a, a = q0 % s.size := ⟨_, rfl⟩
  have ha : a < s.size := by rw [ea]; exact Nat.mod_lt _ (by omega)
  have ea2 : (q0 : Int) % (s.size : Int) = (a : Int) := by rw [ea]; simp
  obtain ⟨m, em⟩ : ∃ m, m = q2 % s.size := ⟨_, rfl⟩
  have hm : m < s.size := by rw [em]; exact Nat.mod_lt _ (by omega)
  have em2 : (q2 : Int) % (s.size : Int) = (m : Int) := by rw [em]; simp
  obtain ⟨y, ey⟩ : ∃ y, y = UInt8.ofNat q1 := ⟨_, rfl⟩
  have hyn : (q1 : Int) % 256 = (y.toNat : Int) := by rw [ey, UInt8.toNat_ofNat']; omega
  have a0 : (0 : Int) ≤ (a : Int) := by omega
  have a1 : (a : Int) < (s.size : Int) := by omega
  have m0 : (0 : Int) ≤ (m : Int) := by omega
  have m1 : (m : Int) ≤ (s.size : Int) := by omega
  clear ea em ey
  have tok1 : True := trivial
  go_wp2_with (have _t := tok1; refine wpList_convert_string rfl 9 39 5 (.tmp 38) rfl s rfl Tryz.underlying9 Tryz.underlying39 Tryz.underlying5 (by unfold maxLen; omega) Z3 Z3.heap.size rfl (Only.refl NoneOf _) ?_; intro g1 c1 w6 hb6 ho6 hg1a hg1b hc1 hc1m; clear tok1 _t)
  have hS6 := HZ3.out.next ho6.out
  have k0 := hS6.q.cell 0
  have k1 := hS6.q.cell 1
  have k2 := hS6.q.cell 2
  simp only [List.getElem?_toArray, List.getElem?_cons_succ, List.getElem?_cons_zero] at k0 k1 k2
  obtain ⟨⟨xi, ci⟩, fi⟩ := hb6.out.at_ ha
  have HS6 := Lib.hid hS6
  have HB6 := hb6
  unfold maxLen at hc1m
  clear hS6 hb6 ho6
  go_region
  go_upto_region 8 with (fail)
  have hgB : B ≠ g1 := fun e => by have := Blk.lt HZ3.out.at_; omega
  have hgQ : Q ≠ g1 := fun e => by have := HZ3.out.q.lt; omega
  have hgw : w.heap.size ≤ g1 := Nat.le_trans HZ3.out.only.size hg1a
  have hb7 := (HB6.out.put_ a y).drewN 1
  have hs7 : CoS w B Q e q0 q1 q2 (w6.setCell ⟨g1, a, none⟩ (.int .u8 (y.toNat : Int))).drew := ⟨Blk.drew (Blk.far (p := ⟨g1, a, none⟩) HS6.out.at_ hgB (bv y)), (HS6.out.q.far (p := ⟨g1, a, none⟩) hgQ (bv y)).drew, (HS6.out.only.setCell (p := ⟨g1, a, none⟩) (.inr hgw) (bv y)).drew⟩
  refine wp_gen (fun Z => Buf Z 5 (.slice (some ⟨g1, 0, none⟩) s.size c1) (s.data.toList.set a y) ∧ CoS w B Q e q0 q1 q2 Z) ⟨hb7, hs7⟩ ?_
  rintro Z ⟨hbZ, hsZ⟩
  have k2 := hsZ.q.cell 2
  simp only [List.getElem?_toArray, List.getElem?_cons_succ, List.getElem?_cons_zero] at k2
  have HBZ := Lib.hid hbZ
  have HSZZ := Lib.hid hsZ
  clear hb7 hs7 hbZ hsZ HB6 HS6 ci fi k0 k1 ea2
  go_upto_region 9 with (fail)
  clear k2
  obtain ⟨U, hU, hUz⟩ : ∃ U : ByteArray, U.size = s.size ∧ ∀ W, Buf W 5 (.slice (some ⟨g1, 0, none⟩) s.size c1) (s.data.toList.set a y) → (convert 39 9 (.slice (some ⟨g1, 0, none⟩) s.size c1)).run Tryz.prog W = .ok (.string U) W :=
    ⟨⟨(s.data.toList.set a y).toArray⟩, by rw [size_list]; simp, fun W hW => run_back hW.bytes (by simp)⟩
  have r1 := hUz Z.drew (HBZ.out.drewN 1)
  have hex : (s.extract 0 m).size = m := by rw [ByteArray.size_extract]; omega
  have hex2 : (s.extract m s.size).size = s.size - m := by rw [ByteArray.size_extract]; omega
  have z1 : ¬ 9223372036854775807 < s.size + raw.size := by omega
  have z2 : ¬ 9223372036854775807 < (s.extract 0 m).size + raw.size := by omega
  have z3 : ¬ 9223372036854775807 < (s.extract 0 m).size + raw.size + (s.extract m s.size).size := by omega
  have z4 : ¬ 9223372036854775807 < s.size + 1 := by omega
  have z5 : ¬ 9223372036854775807 < 1 + s.size := by omega
  have z6 : ¬ 9223372036854775807 < m + raw.size := by omega
  have z7 : ¬ 9223372036854775807 < m + raw.size + (s.size - m) := by omega
  have HUS := Lib.hid hU
  clear hU hUz
  go_region
  obtain ⟨cs, ecs⟩ : ∃ cs : Array Value, cs = ((sevenC U s raw m).map Value.string).toArray := ⟨_, rfl⟩
  obtain ⟨G, eG⟩ : ∃ G, G = Z.heap.size := ⟨_, rfl⟩
  have hz9 : ClS w B Q G e q0 q1 q2 cs (Z.alloc (.cells ((sevenC U s raw m).map Value.string).toArray 9)).drew := ⟨(HSZZ.out.next ((Only.refl _ _).alloc _)).next ((Only.refl _ _).drew), by rw [ecs, eG]; exact (Blk.new Z _ _).drew⟩
  have HZ9 := Lib.hid hz9
  have EG := Lib.hid eG
  have ECS := Lib.hid ecs
  have HST : Hid (∀ (n : Nat) (t : ByteArray), (sevenC U s raw m)[n]? = some t → t.size ≤ 40000000) := Lib.hid (fun n t h => sevenC_size hss HUS.out hraw h)
  clear em2 hyn wq0 wq2 htp htp2 a0 a1 m0 m1
  clear hz9 eG ecs r1 z1 z2 z3 z4 z5 z6 z7 hex hex2 HBZ HSZZ
  go_upto_region 10 with (fail)
  rw [← EG.out]
  refine wp_gen (fun V => ClS w B Q G e q0 q1 q2 cs V) HZ9.out ?_
  intro V hV
  have HV := Lib.hid hV
  clear hV HZ9 EG
  go_wp2_with fail
  go_loopw [14] (fun v W => ∃ k : Nat, v = .int .i64 (k : Int) ∧ k ≤ 7 ∧ ClS w B Q G e q0 q1 q2 cs W) (fun v _ => 7 - (intOf v).toNat)
  case atStart => exact ⟨0, rfl, by omega, HV.out⟩
  case round =>
    clear HV
    obtain ⟨k, rfl, hk, hW⟩ := hrel
    have HW := Lib.hid hW
    clear hW
    by_cases hlt : k < 7
    · obtain ⟨t, ht⟩ : ∃ t, (sevenC U s raw m)[k]? = some t := ⟨_, List.getElem?_eq_getElem (show k < (sevenC U s raw m).length from hlt)⟩
      have hts := HST.out k t ht
      have ik : (k : Int) < 7 := by omega
      have ik0 : (0 : Int) ≤ (k : Int) := by omega
      have wk : IntKind.i64.wrap ((k : Int) + 1) = (k : Int) + 1 := IntWalk.i64_in _ (by omega)
      have HCT : Hid (∀ W, ClS w B Q G e q0 q1 q2 cs W → W.cell? ⟨G, k, none⟩ = some (.string t)) := Lib.hid (fun W h => by rw [h.lst.cell, ECS.out, List.getElem?_toArray, List.getElem?_map, ht]; rfl)
      have ct := HCT.out wr HW.out
      clear ht
      go_wp2_with fail
      refine (pdecode23_any t hts wr (HE.out.none HW.out.co.only)).mono ?_
      rintro e' v1 ⟨x, g, rfl, hcx, hxo, hxn, hxt, ho1⟩
      have HCX := Lib.hid hcx
      have HXO := Lib.hid hxo
      have HXN := Lib.hid hxn
      have HXT := Lib.hid hxt
      clear ct
      obtain ⟨X1, eX1⟩ : ∃ X, X = (v1.alloc (.cells (evC blank0).toArray tEv)).setCells v1.heap.size 0 (evC x) := ⟨_, rfl⟩
      have hst : (evStore (.pointer (some ⟨v1.heap.size, 0, none⟩)) (.agg (evC x).toArray)).run Tryz.prog (v1.alloc (.cells #[.int .i64 0, .int .i64 0, .int .i64 0, .int .i64 0, .int .i64 0, .int .i64 0, .int .i64 0, .int .i64 0, .string ⟨#[]⟩, .string ⟨#[]⟩, .int .i64 0, .int .i64 0, .int .u8 0, .int .u8 0, .int .u8 0, .int .u8 0, .int .u8 0, .int .u8 0, .int .u8 0, .int .u8 0, .int .u8 0, .int .u8 0, .int .u8 0, .int .u8 0, .int .u8 0, .int .u8 0, .int .u8 0, .int .u8 0, .int .u8 0, .int .u8 0, .int .u8 0, .int .u8 0, .int .u8 0, .int .u8 0, .int .u8 0, .int .u8 0, .int .u8 0, .int .u8 0, .int .u8 0, .int .u8 0, .int .u8 0, .int .u8 0, .int .u8 0, .int .u8 0, .int .i64 0, .int .i64 0] 29)) = .ok () ((v1.alloc (.cells (evC blank0).toArray tEv)).setCells v1.heap.size 0 (evC x)) := (ev_lay v1 HXO.out.prev).1
      dsimp only at hst
      obtain ⟨_, hbX, hoX⟩ := ev_lay v1 HXO.out.prev
      rw [← eX1] at hst hbX hoX
      obtain ⟨N1, eN1⟩ : ∃ D, D = v1.heap.size := ⟨_, rfl⟩
      rw [← eN1] at hbX
      have EN1 := Lib.hid eN1
      clear eX1 eN1
      have HX1 := Lib.hid (And.intro ((HW.out.next ho1).next hoX) hbX)
      clear hcx hxo hxn hxt ho1 hoX hbX
      go_upto_region 14 with (fail)
      rw [← EN1.out]
      refine wp_gen (fun Z => ClS w B Q G e q0 q1 q2 cs Z ∧ EvAt Z N1 x) HX1.out ?_
      rintro Z1 ⟨hz1, hz2⟩
      have ct := HCT.out Z1 hz1
      have HZ1 := Lib.hid (And.intro hz1 hz2)
      clear hst HX1 EN1 hz1 hz2
      go_wp2_with fail
      refine (rdecode23_any t hts Z1).mono ?_
      rintro e' v2 ⟨x2, g2, rfl, hcx2, _, _, _, ho2⟩
      obtain ⟨hg, hx2⟩ := CodR.two (show t.data.toList.length ≤ 100000000 by rw [← size_list]; omega) hcx2 HCX.out
      obtain rfl : g = g2 := hg.symm
      obtain rfl : x = x2 := hx2.symm
      clear ct hx2
      obtain ⟨X2, eX2⟩ : ∃ X, X = (v2.alloc (.cells (evC blank0).toArray tEv)).setCells v2.heap.size 0 (evC x) := ⟨_, rfl⟩
      have hst : (evStore (.pointer (some ⟨v2.heap.size, 0, none⟩)) (.agg (evC x).toArray)).run Tryz.prog (v2.alloc (.cells #[.int .i64 0, .int .i64 0, .int .i64 0, .int .i64 0, .int .i64 0, .int .i64 0, .int .i64 0, .int .i64 0, .string ⟨#[]⟩, .string ⟨#[]⟩, .int .i64 0, .int .i64 0, .int .u8 0, .int .u8 0, .int .u8 0, .int .u8 0, .int .u8 0, .int .u8 0, .int .u8 0, .int .u8 0, .int .u8 0, .int .u8 0, .int .u8 0, .int .u8 0, .int .u8 0, .int .u8 0, .int .u8 0, .int .u8 0, .int .u8 0, .int .u8 0, .int .u8 0, .int .u8 0, .int .u8 0, .int .u8 0, .int .u8 0, .int .u8 0, .int .u8 0, .int .u8 0, .int .u8 0, .int .u8 0, .int .u8 0, .int .u8 0, .int .u8 0, .int .u8 0, .int .i64 0, .int .i64 0] 29)) = .ok () ((v2.alloc (.cells (evC blank0).toArray tEv)).setCells v2.heap.size 0 (evC x)) := (ev_lay v2 HXO.out.prev).1
      dsimp only at hst
      obtain ⟨_, hbX, hoX⟩ := ev_lay v2 HXO.out.prev
      rw [← eX2] at hst hbX hoX
      obtain ⟨N2, eN2⟩ : ∃ D, D = v2.heap.size := ⟨_, rfl⟩
      rw [← eN2] at hbX
      have EN2 := Lib.hid eN2
      clear eX2 eN2
      have HX2 := Lib.hid (show ClS w B Q G e q0 q1 q2 cs X2 ∧ EvAt X2 N1 x ∧ EvAt X2 N2 x from ⟨(HZ1.out.1.next ho2).next hoX, Blk.only (Blk.only HZ1.out.2 ho2 (fun e => e)) hoX (fun e => e), hbX⟩)
      clear hcx2 ho2 hoX hbX
      go_upto_region 15 with (fail)
      rw [← EN2.out]
      refine wp_gen (fun Z => CfS w B Q G N1 N2 e x q0 q1 q2 cs Z) ⟨HX2.out.1, HX2.out.2.1, HX2.out.2.2⟩ ?_
      intro Z2 hz
      have hS := hz.next (Only.refl NoneOf Z2).drew
      clear hst HX2 EN2 HZ1 hz
      have cl1 : ∀ W, CfS w B Q G N1 N2 e x q0 q1 q2 cs W → (evLoad (.pointer (some ⟨N1, 0, none⟩))).run Tryz.prog W = .ok (.agg (evC x).toArray) W := fun W h => ev_load h.one HXO.out.prev
      have cl2 : ∀ W, CfS w B Q G N1 N2 e x q0 q1 q2 cs W → (evLoad (.pointer (some ⟨N2, 0, none⟩))).run Tryz.prog W = .ok (.agg (evC x).toArray) W := fun W h => ev_load h.two HXO.out.prev
      have cl3 : ∀ W, CfS w B Q G N1 N2 e x q0 q1 q2 cs W → W.cell? ⟨G, k, none⟩ = some (.string t) := fun W h => HCT.out W h.cl
      have hne : ∀ W, (binOp .neq 29 (.agg (evC x).toArray) (.agg (evC x).toArray)).run Tryz.prog W = .ok (.bool false) W := fun W => by
        rw [neq_ev x x HXO.out.prev HXO.out.prev, sameE_true.2 rfl]; rfl
      have HKEEP : Hid (∀ W W', CfS w B Q G N1 N2 e x q0 q1 q2 cs W → Only NoneOf W W' → CfS w B Q G N1 N2 e x q0 q1 q2 cs W') := Lib.hid (fun W W' h ho => h.next ho)
      rcases HCX.out with ⟨hg0, -, hcode⟩ | ⟨hg0, -, -⟩
      · subst hg0
        have HENC : Hid (∀ W, CfS w B Q G N1 N2 e x q0 q1 q2 cs W → Calls Tryz.prog 13 #[.agg (evC x).toArray] W fun e' w' => e' = .returned (.string t) ∧ Only NoneOf W w') := Lib.hid (fun W h => (eencode_any x HXO.out (by have := HXN.out; omega) (by have := HXT.out; omega) W (HE.out.none h.cl.co.only).tab).mono (by rintro e' w' ⟨t', rfl, ht', ho'⟩; exact ⟨by rw [bytes_ext (ht'.trans hcode.symm)], ho'⟩))
        have hq : (t.toList == t.toList) = true := by simp
        clear hcode
        go_region_held3 (fun W => CfS w B Q G N1 N2 e x q0 q1 q2 cs W) (first | assumption)
          (first
            | (go_at_call 13; refine (HENC.out _ (by assumption)).mono ?_; rintro e2 w2 ⟨rfl, ho2⟩; have hS2 := HKEEP.out _ _ (by assumption) ho2; clear ho2))
        go_wp2_with fail
        go_roundw
        case rel => exact ⟨k + 1, by go_num, by omega, hS2.cl⟩
        case measure => simp [intOf]; omega
      · subst hg0
        have cz1 := cl1 _ hS
        have cz2 := cl2 _ hS
        have HS := Lib.hid hS
        clear cl1 cl2 cl3 hS
        go_region
        go_wp2_with fail
        go_roundw
        case rel => exact ⟨k + 1, by go_num, by omega, HS.out.cl⟩
        case measure => simp [intOf]; omega
    · obtain rfl : k = 7 := by omega
      have ik : ¬ ((7 : Nat) : Int) < 7 := by omega
      go_wp2_with fail
      go_ret
      exact ⟨rfl, HW.out.co.only⟩
end Go.Proofs.YtclpebgjmgfigaaGreatDoor
