/- What is proved here: two bids of the same contents are the same, by the reference's code; a bid made of numbers and texts. Conditions: the lists are short. -/
import Derived.Test.YtpdlbmieciabmaaGreatDoorBsJ
import Derived.Test.YtpdlbmieciabmaaGreatDoorBsE
namespace Go.Proofs.YtpdlbmieciabmaaGreatDoor
open Go.RowKit Go.Shelf
/-- A bid to be read. -/
def BdIn (w : World) (v : Value) (b : Bd) : Prop := ∃ qv pv, v = .agg #[.int .i64 b.bidder, .string b.qt, qv, .string b.pt, pv] ∧ SlOf inC 1 w qv b.qc ∧ SlOf inC 1 w pv b.pc
theorem BdOwn.in_ {w : World} {base : Nat} {v : Value} {b : Bd} (h : BdOwn w base v b) : BdIn w v b := by
  obtain ⟨qv, pv, e, h1, h2⟩ := h
  exact ⟨qv, pv, e, OwnOf.sl inC_len h1, OwnOf.sl inC_len h2⟩
theorem BdIn.only {w w' : World} {v : Value} {b : Bd} (h : BdIn w v b) (ho : Only NoneOf w w') : BdIn w' v b := by
  obtain ⟨qv, pv, e, h1, h2⟩ := h
  exact ⟨qv, pv, e, h1.only ho, h2.only ho⟩
set_option maxRecDepth 100000 in
set_option maxHeartbeats 1000000 in
theorem sbid_any (b : Bd) (hql : b.qc.length ≤ 1000000000) (hpl : b.pc.length ≤ 1000000000) (v u : Value) (w : World) (h : BdIn w v b) (k : BdIn w u b) : Calls Tryz.prog 22 #[v, u] w fun e w' => e = .returned (.bool true) ∧ Only NoneOf w w' := by
  obtain ⟨qv, pv, rfl, h1, h2⟩ := h
  obtain ⟨rv, sv, rfl, h3, h4⟩ := k
  obtain ⟨n, qt, qc, pt, pc⟩ := b
  obtain ⟨A, eA⟩ : ∃ A, A = w.heap.size := ⟨_, rfl⟩
  obtain ⟨B, eB⟩ : ∃ B, B = w.heap.size + 1 := ⟨_, rfl⟩
  obtain ⟨X, eX⟩ : ∃ X, X = (w.alloc (.cells #[.int .i64 n, .string qt, qv, .string pt, pv] tBid)).alloc (.cells #[.int .i64 n, .string qt, rv, .string pt, sv] tBid) := ⟨_, rfl⟩
  have hX : Only NoneOf w X := by rw [eX]; exact ((Only.refl _ _).alloc _).alloc _
  have hA : Blk X A tBid #[.int .i64 n, .string qt, qv, .string pt, pv] := by rw [eX, eA]; exact (Blk.new w _ _).alloc _
  have hB : Blk X B tBid #[.int .i64 n, .string qt, rv, .string pt, sv] := by
    have h := Blk.new (w.alloc (.cells #[.int .i64 n, .string qt, qv, .string pt, pv] tBid)) tBid #[.int .i64 n, .string qt, rv, .string pt, sv]
    rw [World.size_alloc, ← eB, ← eX] at h
    exact h
  have a2 := hA.cell 2
  have b2 := hB.cell 2
  have HA := Lib.hid hA
  have HB := Lib.hid hB
  have HX := Lib.hid hX
  have H1 := Lib.hid (h1.only hX)
  have H2 := Lib.hid (h2.only hX)
  have H3 := Lib.hid (h3.only hX)
  have H4 := Lib.hid (h4.only hX)
  have EX := Lib.hid eX
  have EA := Lib.hid eA
  have EB := Lib.hid eB
  rw [eX, eA] at a2
  rw [eX, eB] at b2
  clear hA hB hX h1 h2 h3 h4 eX eA eB
  go_enter Tryz.func22, Tryz.ntmps22
  go_wp2_with fail
  rw [← EX.out]
  rw [← EB.out, ← EA.out]
  refine (ints_same qc hql qv rv X H1.out H3.out).mono ?_
  rintro e w1 ⟨rfl, ho1⟩
  have HO1 := Lib.hid ho1
  have a4 := ho1.cell_some (HA.out.cell 4) (fun e => e)
  have b4 := ho1.cell_some (HB.out.cell 4) (fun e => e)
  clear ho1 a2 b2
  go_wp2_with fail
  refine (ints_same pc hpl pv sv w1 (H2.out.only HO1.out) (H4.out.only HO1.out)).mono ?_
  rintro e w2 ⟨rfl, ho2⟩
  have HO2 := Lib.hid (HO1.out.trans ho2)
  have a0 := HO2.out.cell_some (HA.out.cell 0) (fun e => e)
  have a1 := HO2.out.cell_some (HA.out.cell 1) (fun e => e)
  have a3 := HO2.out.cell_some (HA.out.cell 3) (fun e => e)
  have b0 := HO2.out.cell_some (HB.out.cell 0) (fun e => e)
  have b1 := HO2.out.cell_some (HB.out.cell 1) (fun e => e)
  have b3 := HO2.out.cell_some (HB.out.cell 3) (fun e => e)
  clear ho2 a4 b4
  go_wp2_with fail
  go_ret
  exact ⟨rfl, HX.out.trans HO2.out⟩
abbrev tPl : TypeId := 64
/-- The contents of a bid's argument. -/
def plCells (n : Int) (t0 t1 : ByteArray) (fv ov : Value) (raw : ByteArray) (q0 q1 q2 : Int) : Array Value := #[.int .i64 n, .string t0, .string t1, fv, ov, .string raw, .int .i64 q0, .int .i64 q1, .int .i64 q2]
theorem read_bd1 {fn : Func} {p : Tmp} {tmps : Array Value} {w : World} {g : Nat} {x0 x1 x2 x3 x4 : Value} (hf : fn.results = #[.cell p tBid]) (hp : tmps.getD p undef = .pointer (some ⟨g, 0, none⟩)) (hb : Blk w g tBid #[x0, x1, x2, x3, x4]) : (results fn tmps).run Tryz.prog w = .ok (.agg #[x0, x1, x2, x3, x4]) w := by
  have hr : w.rangeAt g 0 [x0, x1, x2, x3, x4] := fun j v hj => by rw [Nat.zero_add, hb.cell]; simpa using hj
  have hl := run_loadVar_mid (P := Tryz.prog) w g 0 tBid [x0, x1, x2, x3, x4] _ hr Tryz.underlying42 rfl (by kernel_rfl)
  exact results_cell_of hf hp hl
set_option maxRecDepth 100000 in
set_option maxHeartbeats 1000000 in
theorem pbid_any (n : Int) (t0 t1 raw : ByteArray) (fA oA : Option Addr) (fn fk on ok : Nat) (q0 q1 q2 : Int) (w : World) : Calls Tryz.prog 20 #[.agg #[.int .i64 n, .string t0, .string t1, .slice fA fn fk, .slice oA on ok, .string raw, .int .i64 q0, .int .i64 q1, .int .i64 q2]] w fun e w' => ∃ qt pt : ByteArray, e = .returned (.agg #[.int .i64 n, .string qt, .slice fA fn fk, .string pt, .slice oA on ok]) ∧ qt.size ≤ 300 ∧ pt.size ≤ 300 ∧ Only NoneOf w w' := by
  go_enter Tryz.func20, Tryz.ntmps20
  go_upto_region 1 with (fail)
  go_region
  obtain ⟨qt, eqt⟩ : ∃ qt, qt = t0.extract 0 (min (t0.size : Int) 300).toNat := ⟨_, rfl⟩
  obtain ⟨pt, ept⟩ : ∃ pt, pt = t1.extract 0 (min (t1.size : Int) 300).toNat := ⟨_, rfl⟩
  rw [← eqt, ← ept]
  have h1 : qt.size ≤ 300 := by rw [eqt, ByteArray.size_extract]; omega
  have h2 : pt.size ≤ 300 := by rw [ept, ByteArray.size_extract]; omega
  clear eqt ept
  have hb : Blk (((w.alloc (.cells #[.int .i64 n, .string t0, .string t1, .slice fA fn fk, .slice oA on ok, .string raw, .int .i64 q0, .int .i64 q1, .int .i64 q2] tPl)).alloc (.cells #[.int .i64 n, .string qt, .slice fA fn fk, .string pt, .slice oA on ok] tBid)).drew) (w.heap.size + 1) tBid #[.int .i64 n, .string qt, .slice fA fn fk, .string pt, .slice oA on ok] := Blk.drew (by
    have h := Blk.new (w.alloc (.cells #[.int .i64 n, .string t0, .string t1, .slice fA fn fk, .slice oA on ok, .string raw, .int .i64 q0, .int .i64 q1, .int .i64 q2] tPl)) tBid #[.int .i64 n, .string qt, .slice fA fn fk, .string pt, .slice oA on ok]
    rw [World.size_alloc] at h
    exact h)
  have HB := Lib.hid hb
  have HO := Lib.hid (show Only NoneOf w (((w.alloc (.cells #[.int .i64 n, .string t0, .string t1, .slice fA fn fk, .slice oA on ok, .string raw, .int .i64 q0, .int .i64 q1, .int .i64 q2] tPl)).alloc (.cells #[.int .i64 n, .string qt, .slice fA fn fk, .string pt, .slice oA on ok] tBid)).drew) from (((Only.refl _ _).alloc _).alloc _).drew)
  clear hb
  go_wp2_with fail
  exact bodyPost_ret (read_bd1 rfl rfl HB.out) rfl ⟨qt, pt, rfl, h1, h2, HO.out⟩
end Go.Proofs.YtpdlbmieciabmaaGreatDoor
