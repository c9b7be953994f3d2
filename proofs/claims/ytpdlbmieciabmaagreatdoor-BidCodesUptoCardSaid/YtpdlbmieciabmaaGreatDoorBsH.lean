/- What is proved here: the reference reads a bid. Conditions: the text is short. -/
import Derived.Test.YtpdlbmieciabmaaGreatDoorQ1
import Derived.Test.YtpdlbmieciabmaaGreatDoorB2
import Derived.Test.YtpdlbmieciabmaaGreatDoorBrU
namespace Go.Proofs.YtpdlbmieciabmaaGreatDoor
open Go.RowKit Go.Shelf
theorem Bd.eta (b : Bd) : b = ⟨b.bidder, b.qt, b.qc, b.pt, b.pc⟩ := rfl
/-- A bid of the call's own. -/
def BdOwn (w : World) (base : Nat) (v : Value) (b : Bd) : Prop := ∃ qv pv, v = .agg #[.int .i64 b.bidder, .string b.qt, qv, .string b.pt, pv] ∧ OwnOf 3 inC 1 w base qv b.qc.length b.qc ∧ OwnOf 3 inC 1 w base pv b.pc.length b.pc
def bd0 : Bd := ⟨0, ⟨#[]⟩, [], ⟨#[]⟩, []⟩
theorem BdOwn.zero (w : World) (base : Nat) : BdOwn w base (.agg #[.int .i64 0, .string ⟨#[]⟩, .slice none 0 0, .string ⟨#[]⟩, .slice none 0 0]) bd0 := ⟨_, _, rfl, OwnOf.nil _ _ _ _ _, OwnOf.nil _ _ _ _ _⟩
/-- What a reader of bids answers. -/
def DcE (s : ByteArray) (w : World) (e : Ending) (w' : World) : Prop := ∃ v code b, e = .returned (.tuple #[v, .int .i64 code]) ∧ BdOwn w' w.heap.size v b ∧ ((code = 0 ∧ BRd s.data.toList b) ∨ (code = 11 ∧ b = bd0 ∧ ∀ d, ¬ BRd s.data.toList d)) ∧ Only NoneOf w w'
theorem DcE.bad {s : ByteArray} {w w' : World} (h : ∀ d, ¬ BRd s.data.toList d) (ho : Only NoneOf w w') : DcE s w (.returned (.tuple #[.agg #[.int .i64 0, .string ⟨#[]⟩, .slice none 0 0, .string ⟨#[]⟩, .slice none 0 0], .int .i64 11])) w' := ⟨_, _, bd0, rfl, BdOwn.zero _ _, .inr ⟨rfl, rfl, h⟩, ho⟩
theorem DcE.ok {s : ByteArray} {w w' : World} {v : Value} {b : Bd} (h : BRd s.data.toList b) (k : BdOwn w' w.heap.size v b) (ho : Only NoneOf w w') : DcE s w (.returned (.tuple #[v, .int .i64 0])) w' := ⟨_, _, b, rfl, k, .inl ⟨rfl, h⟩, ho⟩
/-- What the reference's reader keeps. -/
structure DcS (s : ByteArray) (w : World) (R C B : Nat) (n : Int) (qt : ByteArray) (qv : Value) (qc : List Int) (pt : ByteArray) (pv : Value) (pc : List Int) (a : Nat) (b : Bool) (W : World) : Prop where
  ord : w.heap.size ≤ R ∧ R < C ∧ C < B
  cur : Cur W C s a b
  bid : Blk W B tBid #[.int .i64 n, .string qt, qv, .string pt, pv]
  res : Blk W R tBid #[.int .i64 0, .string ⟨#[]⟩, .slice none 0 0, .string ⟨#[]⟩, .slice none 0 0]
  q : OwnOf 3 inC 1 W (B + 1) qv qc.length qc
  p : OwnOf 3 inC 1 W (B + 1) pv pc.length pc
  only : Only NoneOf w W
section
variable {s : ByteArray} {w W W' : World} {R C B : Nat} {n : Int} {qt pt : ByteArray} {qv pv : Value} {qc pc : List Int} {a a' : Nat} {b b' : Bool}
theorem DcS.step (h : DcS s w R C B n qt qv qc pt pv pc a b W) (hc : Cur W' C s a' b') (ho : Only (· = C) W W') : DcS s w R C B n qt qv qc pt pv pc a' b' W' := by
  have h1 := h.ord
  exact ⟨h1, hc, h.bid.only ho (fun e => by have e' : B = C := e; omega), h.res.only ho (fun e => by have e' : R = C := e; omega), OwnOf.cur h.q ho (by omega), OwnOf.cur h.p ho (by omega), h.only.trans' ho (fun i hi e => by have e' : i = C := e; omega)⟩
theorem DcS.put (h : DcS s w R C B n qt qv qc pt pv pc a b W) (j : Nat) (u : Value) : Only (· = B) W (W.setCell ⟨B, j, none⟩ u) ∧ Cur (W.setCell ⟨B, j, none⟩ u) C s a b ∧ Blk (W.setCell ⟨B, j, none⟩ u) R tBid #[.int .i64 0, .string ⟨#[]⟩, .slice none 0 0, .string ⟨#[]⟩, .slice none 0 0] ∧ OwnOf 3 inC 1 (W.setCell ⟨B, j, none⟩ u) (B + 1) qv qc.length qc ∧ OwnOf 3 inC 1 (W.setCell ⟨B, j, none⟩ u) (B + 1) pv pc.length pc ∧ Only NoneOf w (W.setCell ⟨B, j, none⟩ u) := by
  have h1 := h.ord
  have ho : Only (· = B) W (W.setCell ⟨B, j, none⟩ u) := (Only.refl (· = B) W).setCell (p := ⟨B, j, none⟩) (.inl rfl) _
  exact ⟨ho, h.cur.only ho (fun e => by have e' : C = B := e; omega), h.res.only ho (fun e => by have e' : R = B := e; omega), OwnOf.cur h.q ho (by omega), OwnOf.cur h.p ho (by omega), h.only.trans' ho (fun i hi e => by have e' : i = B := e; omega)⟩
theorem DcS.put0 (h : DcS s w R C B n qt qv qc pt pv pc a b W) (n' : Int) : DcS s w R C B n' qt qv qc pt pv pc a b (W.setCell ⟨B, 0, none⟩ (.int .i64 n')) := by
  obtain ⟨_, h1, h2, h3, h4, h5⟩ := h.put 0 (.int .i64 n')
  exact ⟨h.ord, h1, Blk.set_ h.bid 0 _, h2, h3, h4, h5⟩
theorem DcS.put1 (h : DcS s w R C B n qt qv qc pt pv pc a b W) (t : ByteArray) : DcS s w R C B n t qv qc pt pv pc a b (W.setCell ⟨B, 1, none⟩ (.string t)) := by
  obtain ⟨_, h1, h2, h3, h4, h5⟩ := h.put 1 (.string t)
  exact ⟨h.ord, h1, Blk.set_ h.bid 1 _, h2, h3, h4, h5⟩
theorem DcS.put3 (h : DcS s w R C B n qt qv qc pt pv pc a b W) (t : ByteArray) : DcS s w R C B n qt qv qc t pv pc a b (W.setCell ⟨B, 3, none⟩ (.string t)) := by
  obtain ⟨_, h1, h2, h3, h4, h5⟩ := h.put 3 (.string t)
  exact ⟨h.ord, h1, Blk.set_ h.bid 3 _, h2, h3, h4, h5⟩
theorem DcS.put2 (h : DcS s w R C B n qt qv qc pt pv pc a b W) (u : Value) (ns : List Int) {base : Nat} (ho : OwnOf 3 inC 1 W base u ns.length ns) (h6 : B + 1 ≤ base) : DcS s w R C B n qt u ns pt pv pc a b (W.setCell ⟨B, 2, none⟩ u) := by
  obtain ⟨h0, h1, h2, h3, h4, h5⟩ := h.put 2 u
  have h9 := h.ord
  exact ⟨h.ord, h1, Blk.set_ h.bid 2 _, h2, OwnOf.cur (own_base ho h6) h0 (by omega), h4, h5⟩
theorem DcS.put4 (h : DcS s w R C B n qt qv qc pt pv pc a b W) (u : Value) (ns : List Int) {base : Nat} (ho : OwnOf 3 inC 1 W base u ns.length ns) (h6 : B + 1 ≤ base) : DcS s w R C B n qt qv qc pt u ns a b (W.setCell ⟨B, 4, none⟩ u) := by
  obtain ⟨h0, h1, h2, h3, h4, h5⟩ := h.put 4 u
  have h9 := h.ord
  exact ⟨h.ord, h1, Blk.set_ h.bid 4 _, h2, h3, OwnOf.cur (own_base ho h6) h0 (by omega), h5⟩
end
def set5 (W : World) (R : Nat) (y0 y1 y2 y3 y4 : Value) : World := ((((W.setCell ⟨R, 0, none⟩ y0).setCell ⟨R, 1, none⟩ y1).setCell ⟨R, 2, none⟩ y2).setCell ⟨R, 3, none⟩ y3).setCell ⟨R, 4, none⟩ y4
theorem set5_blk {W : World} {R : Nat} {t : TypeId} {x0 x1 x2 x3 x4 : Value} (h : Blk W R t #[x0, x1, x2, x3, x4]) (y0 y1 y2 y3 y4 : Value) : Blk (set5 W R y0 y1 y2 y3 y4) R t #[y0, y1, y2, y3, y4] ∧ Only (· = R) W (set5 W R y0 y1 y2 y3 y4) := by
  have a0 : Blk (W.setCell ⟨R, 0, none⟩ y0) R t #[y0, x1, x2, x3, x4] := Blk.set_ h 0 _
  have a1 : Blk ((W.setCell ⟨R, 0, none⟩ y0).setCell ⟨R, 1, none⟩ y1) R t #[y0, y1, x2, x3, x4] := Blk.set_ a0 1 _
  have a2 : Blk (((W.setCell ⟨R, 0, none⟩ y0).setCell ⟨R, 1, none⟩ y1).setCell ⟨R, 2, none⟩ y2) R t #[y0, y1, y2, x3, x4] := Blk.set_ a1 2 _
  have a3 : Blk ((((W.setCell ⟨R, 0, none⟩ y0).setCell ⟨R, 1, none⟩ y1).setCell ⟨R, 2, none⟩ y2).setCell ⟨R, 3, none⟩ y3) R t #[y0, y1, y2, y3, x4] := Blk.set_ a2 3 _
  have o : ∀ {X : World} (j : Nat) (y : Value), Only (· = R) W X → Only (· = R) W (X.setCell ⟨R, j, none⟩ y) := fun j y h => h.setCell (p := ⟨R, j, none⟩) (.inl rfl) _
  exact ⟨Blk.set_ a3 4 _, o 4 _ (o 3 _ (o 2 _ (o 1 _ (o 0 _ (Only.refl _ _)))))⟩
theorem read_bd {fn : Func} {p u : Tmp} {tmps : Array Value} {w : World} {g : Nat} {x0 x1 x2 x3 x4 : Value} {c : Int} (hf : fn.results = #[.cell p tBid, .tmp u]) (hp : tmps.getD p undef = .pointer (some ⟨g, 0, none⟩)) (hu : tmps.getD u undef = .int .i64 c) (hb : Blk w g tBid #[x0, x1, x2, x3, x4]) : (results fn tmps).run Tryz.prog w = .ok (.tuple #[.agg #[x0, x1, x2, x3, x4], .int .i64 c]) w := by
  have hr : w.rangeAt g 0 [x0, x1, x2, x3, x4] := fun j v hj => by rw [Nat.zero_add, hb.cell]; simpa using hj
  have hl := run_loadVar_mid (P := Tryz.prog) w g 0 tBid [x0, x1, x2, x3, x4] _ hr Tryz.underlying42 rfl (by kernel_rfl)
  rw [results_cell_tmp hf, hp, hu]
  simp only [asAddr]
  show (Result.andThen (Result.ok _ w) _) = _
  simp only [Result.andThen]
  rw [hl]
theorem DcS.fail {s : ByteArray} {w W : World} {R C B : Nat} {n : Int} {qt pt : ByteArray} {qv pv : Value} {qc pc : List Int} {a : Nat} {b : Bool} (h : DcS s w R C B n qt qv qc pt pv pc a b W) : Blk (set5 W R (.int .i64 0) (.string ⟨#[]⟩) (.slice none 0 0) (.string ⟨#[]⟩) (.slice none 0 0)) R tBid #[.int .i64 0, .string ⟨#[]⟩, .slice none 0 0, .string ⟨#[]⟩, .slice none 0 0] ∧ Only NoneOf w (set5 W R (.int .i64 0) (.string ⟨#[]⟩) (.slice none 0 0) (.string ⟨#[]⟩) (.slice none 0 0)) := by
  have h1 := h.ord
  obtain ⟨k1, k2⟩ := set5_blk h.res (.int .i64 0) (.string ⟨#[]⟩) (.slice none 0 0) (.string ⟨#[]⟩) (.slice none 0 0)
  exact ⟨k1, h.only.trans' k2 (fun i hi e => by have e' : i = R := e; omega)⟩
theorem DcS.done {s : ByteArray} {w W : World} {R C B : Nat} {n : Int} {qt pt : ByteArray} {qv pv : Value} {qc pc : List Int} {a : Nat} {b : Bool} (h : DcS s w R C B n qt qv qc pt pv pc a b W) : Blk (set5 W R (.int .i64 n) (.string qt) qv (.string pt) pv) R tBid #[.int .i64 n, .string qt, qv, .string pt, pv] ∧ BdOwn (set5 W R (.int .i64 n) (.string qt) qv (.string pt) pv) w.heap.size (.agg #[.int .i64 n, .string qt, qv, .string pt, pv]) ⟨n, qt, qc, pt, pc⟩ ∧ Only NoneOf w (set5 W R (.int .i64 n) (.string qt) qv (.string pt) pv) := by
  have h1 := h.ord
  obtain ⟨k1, k2⟩ := set5_blk h.res (.int .i64 n) (.string qt) qv (.string pt) pv
  exact ⟨k1, ⟨qv, pv, rfl, own_base (OwnOf.cur h.q k2 (by omega)) (by omega), own_base (OwnOf.cur h.p k2 (by omega)) (by omega)⟩, h.only.trans' k2 (fun i hi e => by have e' : i = R := e; omega)⟩
set_option maxRecDepth 100000 in
set_option maxHeartbeats 4000000 in
theorem rdecode_any (s : ByteArray) (hs : s.size ≤ 1000000000) (w : World) : Calls Tryz.prog 26 #[.string s] w (DcE s w) := by
  obtain ⟨R, eR⟩ : ∃ R, R = w.heap.size := ⟨_, rfl⟩
  obtain ⟨C, eC⟩ : ∃ C, C = w.heap.size + 1 := ⟨_, rfl⟩
  obtain ⟨B, eB⟩ : ∃ B, B = w.heap.size + 1 + 1 := ⟨_, rfl⟩
  obtain ⟨X, eX⟩ : ∃ X, X = ((w.alloc (.cells #[.int .i64 0, .string ⟨#[]⟩, .slice none 0 0, .string ⟨#[]⟩, .slice none 0 0] tBid)).alloc (.cells #[.string s, .int .i64 0, .bool false] tCur)).alloc (.cells #[.int .i64 0, .string ⟨#[]⟩, .slice none 0 0, .string ⟨#[]⟩, .slice none 0 0] tBid) := ⟨_, rfl⟩
  have hC1 : Blk (w.alloc (.cells #[.int .i64 0, .string ⟨#[]⟩, .slice none 0 0, .string ⟨#[]⟩, .slice none 0 0] tBid)) R tBid #[.int .i64 0, .string ⟨#[]⟩, .slice none 0 0, .string ⟨#[]⟩, .slice none 0 0] := by rw [eR]; exact Blk.new w _ _
  have hC2 : Blk ((w.alloc (.cells #[.int .i64 0, .string ⟨#[]⟩, .slice none 0 0, .string ⟨#[]⟩, .slice none 0 0] tBid)).alloc (.cells #[.string s, .int .i64 0, .bool false] tCur)) C tCur #[.string s, .int .i64 0, .bool false] := by
    have h := Blk.new (w.alloc (.cells #[.int .i64 0, .string ⟨#[]⟩, .slice none 0 0, .string ⟨#[]⟩, .slice none 0 0] tBid)) tCur #[.string s, .int .i64 0, .bool false]
    rw [World.size_alloc, ← eC] at h
    exact h
  have hC3 : Blk X B tBid #[.int .i64 0, .string ⟨#[]⟩, .slice none 0 0, .string ⟨#[]⟩, .slice none 0 0] := by
    have h := Blk.new ((w.alloc (.cells #[.int .i64 0, .string ⟨#[]⟩, .slice none 0 0, .string ⟨#[]⟩, .slice none 0 0] tBid)).alloc (.cells #[.string s, .int .i64 0, .bool false] tCur)) tBid #[.int .i64 0, .string ⟨#[]⟩, .slice none 0 0, .string ⟨#[]⟩, .slice none 0 0]
    rw [World.size_alloc, World.size_alloc, ← eB, ← eX] at h
    exact h
  have S0 : Hid (DcS s w R C B 0 ⟨#[]⟩ (.slice none 0 0) [] ⟨#[]⟩ (.slice none 0 0) [] 0 false X) := Lib.hid ⟨by omega, by rw [eX]; exact hC2.alloc _, hC3, by rw [eX]; exact (hC1.alloc _).alloc _, OwnOf.nil _ _ _ _ _, OwnOf.nil _ _ _ _ _, by rw [eX]; exact (((Only.refl _ _).alloc _).alloc _).alloc _⟩
  have EX := Lib.hid eX
  have ER := Lib.hid eR
  have EC := Lib.hid eC
  have EB := Lib.hid eB
  clear eX eR eC eB hC1 hC2 hC3
  go_enter Tryz.func26, Tryz.ntmps26
  go_wp2_with fail
  rw [← EX.out]
  rw [← EB.out, ← EC.out, ← ER.out]
  refine (need_any S0.out.cur (Nat.zero_le _) (by omega) ⟨#[98, 105, 100, 32]⟩ (by decide)).mono ?_
  rintro e w1 ⟨rfl, a1, b1, hn1, ha1, hc1, ho1⟩
  have S1 := Lib.hid (S0.out.step hc1 ho1)
  clear hc1 ho1
  go_wp2_with fail
  refine (number_any S1.out.cur ha1 (by omega)).mono ?_
  rintro e w2 ⟨a2, n, b2, rfl, hn2, ha2, hc2, ho2⟩
  have T2 := Lib.hid (S1.out.step hc2 ho2)
  have g2 := T2.out.bid.cell 0
  have f2 := T2.out.bid.frozen 0
  have S2 := Lib.hid (T2.out.put0 n)
  clear hc2 ho2
  go_wp2_with fail
  refine (need_any S2.out.cur ha2 (by omega) ⟨#[10, 113, 117, 97, 108, 105, 116, 121]⟩ (by decide)).mono ?_
  rintro e w3 ⟨rfl, a3, b3, hn3, ha3, hc3, ho3⟩
  have S3 := Lib.hid (S2.out.step hc3 ho3)
  clear hc3 ho3
  clear g2 f2 T2
  go_wp2_with fail
  refine (commits_any S3.out.cur ha3 hs).mono ?_
  rintro e w4 ⟨a4, qc, b4, qcv, rfl, hn4, ha4, hc4, hw4, ho4⟩
  obtain ⟨qcA, qck, rfl, _, _⟩ := own_form' hw4
  have hB4 := Blk.lt S3.out.bid
  have T4 := Lib.hid (S3.out.step hc4 ho4)
  have g4 := T4.out.bid.cell 2
  have f4 := T4.out.bid.frozen 2
  have S4 := Lib.hid (T4.out.put2 _ qc hw4 (by omega))
  clear hc4 ho4 hB4 hw4
  go_wp2_with fail
  refine (need_any S4.out.cur ha4 (by omega) ⟨#[10]⟩ (by decide)).mono ?_
  rintro e w5 ⟨rfl, a5, b5, hn5, ha5, hc5, ho5⟩
  have S5 := Lib.hid (S4.out.step hc5 ho5)
  clear hc5 ho5
  clear g4 f4 T4
  go_wp2_with fail
  refine (rbytes_any S5.out.cur ha5 hs).mono ?_
  rintro e w6 ⟨a6, qt, rfl, hn6, ha6, hc6, ho6⟩
  have T6 := Lib.hid (S5.out.step hc6 ho6)
  have g6 := T6.out.bid.cell 1
  have f6 := T6.out.bid.frozen 1
  have S6 := Lib.hid (T6.out.put1 qt)
  clear hc6 ho6
  go_wp2_with fail
  refine (need_any S6.out.cur ha6 (by omega) ⟨#[10, 112, 114, 105, 99, 101]⟩ (by decide)).mono ?_
  rintro e w7 ⟨rfl, a7, b7, hn7, ha7, hc7, ho7⟩
  have S7 := Lib.hid (S6.out.step hc7 ho7)
  clear hc7 ho7
  clear g6 f6 T6
  go_wp2_with fail
  refine (commits_any S7.out.cur ha7 hs).mono ?_
  rintro e w8 ⟨a8, pc, b8, pcv, rfl, hn8, ha8, hc8, hw8, ho8⟩
  obtain ⟨pcA, pck, rfl, _, _⟩ := own_form' hw8
  have hB8 := Blk.lt S7.out.bid
  have T8 := Lib.hid (S7.out.step hc8 ho8)
  have g8 := T8.out.bid.cell 4
  have f8 := T8.out.bid.frozen 4
  have S8 := Lib.hid (T8.out.put4 _ pc hw8 (by omega))
  clear hc8 ho8 hB8 hw8
  go_wp2_with fail
  refine (need_any S8.out.cur ha8 (by omega) ⟨#[10]⟩ (by decide)).mono ?_
  rintro e w9 ⟨rfl, a9, b9, hn9, ha9, hc9, ho9⟩
  have S9 := Lib.hid (S8.out.step hc9 ho9)
  clear hc9 ho9
  clear g8 f8 T8
  go_wp2_with fail
  refine (rbytes_any S9.out.cur ha9 hs).mono ?_
  rintro e w10 ⟨a10, pt, rfl, hn10, ha10, hc10, ho10⟩
  have T10 := Lib.hid (S9.out.step hc10 ho10)
  have g10 := T10.out.bid.cell 3
  have f10 := T10.out.bid.frozen 3
  have S10 := Lib.hid (T10.out.put3 pt)
  clear hc10 ho10
  go_wp2_with fail
  refine (need_any S10.out.cur ha10 (by omega) ⟨#[10]⟩ (by decide)).mono ?_
  rintro e w11 ⟨rfl, a11, b11, hn11, ha11, hc11, ho11⟩
  have S11 := Lib.hid (S10.out.step hc11 ho11)
  clear hc11 ho11
  clear g10 f10 T10
  have HD := Lib.hid (dec_c hn1 hn2 hn3 hn4 hn5 hn6 hn7 hn8 hn9 hn10 hn11)
  obtain ⟨k0, k1, k2⟩ := S11.out.cur.cells
  have r0 := S11.out.bid.cell 0
  have r1 := S11.out.bid.cell 1
  have r2 := S11.out.bid.cell 2
  have r3 := S11.out.bid.cell 3
  have r4 := S11.out.bid.cell 4
  have s0 := S11.out.res.cell 0
  have s1 := S11.out.res.cell 1
  have s2 := S11.out.res.cell 2
  have s3 := S11.out.res.cell 3
  have s4 := S11.out.res.cell 4
  have q0 := S11.out.res.frozen 0
  have q1 := S11.out.res.frozen 1
  have q2 := S11.out.res.frozen 2
  have q3 := S11.out.res.frozen 3
  have q4 := S11.out.res.frozen 4
  clear hn1 hn2 hn3 hn4 hn5 hn6 hn7 hn8 hn9 hn10 hn11
  by_cases hb : b11 = true
  · subst hb
    have HNO : Hid (∀ d, ¬ BRd s.data.toList d) := Lib.hid (fun d hd => absurd (HD.out.2 d hd).1 (by decide))
    go_wp2_with fail
    exact bodyPost_ret (read_bd rfl rfl rfl S11.out.fail.1) rfl (DcE.bad HNO.out S11.out.fail.2)
  · obtain rfl : b11 = false := by simpa using hb
    by_cases hae : a11 = s.size
    · subst hae
      have HR := Lib.hid (HD.out.1 rfl (size_list s))
      go_wp2_with fail
      exact bodyPost_ret (read_bd rfl rfl rfl S11.out.done.1) rfl (DcE.ok HR.out S11.out.done.2.1 S11.out.done.2.2)
    · have hi : ¬ (a11 : Int) = (s.size : Int) := by omega
      have HNO : Hid (∀ d, ¬ BRd s.data.toList d) := Lib.hid (fun d hd => hae (by rw [size_list]; exact (HD.out.2 d hd).2.1))
      go_wp2_with fail
      exact bodyPost_ret (read_bd rfl rfl rfl S11.out.fail.1) rfl (DcE.bad HNO.out S11.out.fail.2)
end Go.Proofs.YtpdlbmieciabmaaGreatDoor
