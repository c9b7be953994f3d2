/- What is proved here: a text combined with the stream of a key. Conditions: the table of powers of ten reads as its initialiser lays it; the text is short. -/
import Derived.Test.YtdgapomeenigbaaDoorSealB
namespace Go.Proofs.YtdgapomeenigbaaDoor
open Go.RowKit Go.Shelf
attribute [local go_sem] Oper.semAt_some

def seg (l : List UInt8) (i : Nat) : List UInt8 := (l.drop (32 * i)).take 32
/-- The first k pieces, combined. -/
def combK (key : Int) (l : List UInt8) : Nat → List UInt8
  | 0 => []
  | k + 1 => combK key l k ++ xorL (shaL (streamS key k)) (seg l k)
def outK (key : Int) (l : List UInt8) (k : Nat) : List UInt8 := combK key l k ++ l.drop (32 * k)
def combL (key : Int) (l : List UInt8) : List UInt8 := combK key l ((l.length + 31) / 32)
theorem seg_len (l : List UInt8) (i : Nat) : (seg l i).length = min 32 (l.length - 32 * i) := by simp [seg]
theorem combK_len (key : Int) (l : List UInt8) (k : Nat) : (combK key l k).length = min (32 * k) l.length := by
  induction k with
  | zero => simp [combK]
  | succ k ih => rw [combK, List.length_append, ih, xorL_len, shaL_len, seg_len]; omega
theorem outK_len (key : Int) (l : List UInt8) (k : Nat) : (outK key l k).length = l.length := by
  rw [outK, List.length_append, combK_len, List.length_drop]; omega
theorem combL_len (key : Int) (l : List UInt8) : (combL key l).length = l.length := by rw [combL, combK_len]; omega
/-- Beyond the end no piece changes anything. -/
theorem combK_end (key : Int) (l : List UInt8) (k : Nat) (h : l.length ≤ 32 * k) : combK key l k = combL key l := by
  have step : ∀ j, l.length ≤ 32 * j → combK key l (j + 1) = combK key l j := fun j hj => by
    have : seg l j = [] := by rw [← List.length_eq_zero_iff, seg_len]; omega
    rw [combK, this]; simp [xorL]
  obtain ⟨d, hd⟩ : ∃ d, k = (l.length + 31) / 32 + d := ⟨k - (l.length + 31) / 32, by omega⟩
  subst hd
  clear h
  induction d with
  | zero => rfl
  | succ d ih => rw [← Nat.add_assoc, step _ (by omega)]; exact ih
theorem outK_end (key : Int) (l : List UInt8) (k : Nat) (h : l.length ≤ 32 * k) : outK key l k = combL key l := by
  rw [outK, combK_end key l k h, List.drop_of_length_le (by omega), List.append_nil]
/-- One piece more. -/
theorem outK_step (key : Int) (l : List UInt8) (k : Nat) (h : 32 * k < l.length) :
    setMany ((outK key l k).map bv) (32 * k) ((xorL (shaL (streamS key k)) (seg l k)).map bv) = (outK key l (k + 1)).map bv := by
  have h1 : (combK key l k).length = 32 * k := by rw [combK_len]; omega
  have h2 : (xorL (shaL (streamS key k)) (seg l k)).length = min 32 (l.length - 32 * k) := by rw [xorL_len, shaL_len, seg_len]; omega
  rw [setMany_eq _ _ _ (by rw [List.length_map, List.length_map, outK_len, h2]; omega), List.length_map, h2, ← List.map_take, ← List.map_drop, ← List.map_append, ← List.map_append]
  congr 1
  rw [outK, outK, combK, List.take_append_of_le_length (by omega), List.take_of_length_le (by omega), List.drop_append, List.drop_of_length_le (by omega), List.nil_append, List.drop_drop, h1]
  congr 1
  by_cases hh : 32 * (k + 1) ≤ l.length
  · congr 1; omega
  · rw [List.drop_of_length_le (by omega), List.drop_of_length_le (by omega)]
theorem seg_out (key : Int) (l : List UInt8) (k : Nat) : ((outK key l k).drop (32 * k)).take 32 = seg l k := by
  by_cases h : 32 * k ≤ l.length
  · have h1 : (combK key l k).length = 32 * k := by rw [combK_len]; omega
    rw [outK, List.drop_append, List.drop_of_length_le (by omega), h1, Nat.sub_self, List.nil_append]; rfl
  · rw [List.drop_of_length_le (by rw [outK_len]; omega), seg, List.drop_of_length_le (by omega)]
theorem wpListIn_store_mid {F : Fence} {m : Nat} {P : Program} {ops : Array Oper} {rest : List Oper} {o : Oper} {a : Act} {w : World} {Q : Exit → Act → World → Prop} (hgd : o.guard = none) (ty : TypeId) (x y : Operand) (ho : o.op = .store ty x y)
    (b i : Nat) (cells : Array Value) (hx : a.eval x = .pointer (some ⟨b, i, none⟩)) (hy : a.eval y = .agg cells) (ht : w.there b i cells.size) (hi : (P.info? ty).map (·.size) = some cells.size) (h1 : cells.all (·.oneCell') = true)
    (h : wpListIn F m P ops Q rest (a.put o.dst undef) (w.setCells b i cells.toList)) : wpListIn F m P ops Q (o :: rest) a w := by
  refine wpListIn_plain hgd fun K hK' => ?_
  unfold Oper.wpIn
  refine ⟨?_, ?_⟩
  · simp [Oper.about, ho]
  · rw [Oper.semAt_plain F _ _ (by rw [ho]; intro c hc'; cases hc')]
    simp only [execOp, ho, hx, hy, Instr.storeAt, Instr.sureAddr, Sem.run_bind, Sem.run_pure, Result.andThen_ok, run_storeVar_mid w b i ty cells ht hi h1]
    exact hK' _ _ h
theorem cells_stay {X Y : World} {row : Option Nat} (hg : X.grownBy Y row) (hr : ∀ r, row = some r → ∃ o : Obj, X.heap[r]? = some o ∧ o.isCells = false) {k : Nat} {cs : Array Value} {t : TypeId} {fr : Nat × Nat} (h : X.heap[k]? = some (.cells cs t fr)) : Y.heap[k]? = X.heap[k]? :=
  hg.block k (Array.getElem?_eq_some_iff.1 h).1 (fun e => by
    obtain ⟨o, ho, hc⟩ := hr k e.symm
    rw [h] at ho; cases ho; cases hc)
theorem Tab.grown {X Y : World} {row : Option Nat} (h : Tab X) (hg : X.grownBy Y row) (hr : ∀ r, row = some r → ∃ o : Obj, X.heap[r]? = some o ∧ o.isCells = false) : Tab Y := by
  have hgl : Tryd.prog.globalNamed pow10 = some 0 := by kernel_rfl
  unfold Tab Lib.TabIs World.var? at *
  rw [hgl] at h ⊢
  simp only [Option.bind_some] at h ⊢
  cases hx : X.heap[0]? with
  | none => rw [hx] at h; cases h
  | some o =>
    cases o with
    | cells cs t fr => rw [cells_stay hg hr hx]; exact h
    | _ => rw [hx] at h; cases h
theorem Tab.lt {X : World} (h : Tab X) : 0 < X.heap.size := by
  have hgl : Tryd.prog.globalNamed pow10 = some 0 := by kernel_rfl
  unfold Tab Lib.TabIs World.var? at *
  rw [hgl] at h
  simp only [Option.bind_some] at h
  cases hx : X.heap[0]? with
  | none => rw [hx] at h; cases h
  | some o => exact (Array.getElem?_eq_some_iff.1 hx).1
/-- What holds between two rounds. -/
structure CombI (w : World) (O g c n : Nat) (L : List UInt8) (W : World) : Prop where
  box : Blk W O 32 #[.slice (some ⟨g, 0, none⟩) n c]
  buf : Buf W 5 (.slice (some ⟨g, 0, none⟩) n c) L
  rest : Only NoneOf w W
  tab : Tab W
  big : O + 2 ≤ W.heap.size
  lt : g < O
  new : w.heap.size ≤ g
theorem CombI.grown {w : World} {O g c n : Nat} {L : List UInt8} {X Y : World} {row : Option Nat} (h : CombI w O g c n L X) (hg : X.grownBy Y row) (hr : ∀ r, row = some r → w.heap.size ≤ r ∧ ∃ o : Obj, X.heap[r]? = some o ∧ o.isCells = false) : CombI w O g c n L Y := by
  refine ⟨(cells_stay hg (fun r e => (hr r e).2) h.box).trans h.box, ?_, h.rest.grown hg (fun k hk => .inr (hr k hk).1), h.tab.grown hg (fun r e => (hr r e).2), Nat.le_trans h.big hg.size, h.lt, h.new⟩
  obtain ⟨g', cap, cur, lo, hi, hv, hh, hrest⟩ := h.buf
  exact ⟨g', cap, cur, lo, hi, hv, (cells_stay hg (fun r e => (hr r e).2) hh).trans hh, hrest⟩
theorem CombI.alloc {w : World} {O g c n : Nat} {L : List UInt8} {X : World} (h : CombI w O g c n L X) (o : Obj) : CombI w O g c n L (X.alloc o) :=
  h.grown (World.grownBy_alloc X o none) (fun r e => by cases e)
theorem CombI.only {w : World} {O g c n : Nat} {L : List UInt8} {X Y : World} {S : Nat → Prop} (h : CombI w O g c n L X) (ho : Only S X Y) (hS : ∀ k, S k → O + 2 ≤ k) : CombI w O g c n L Y := by
  have hl := h.lt; have hn := h.new; have hb := h.big
  refine ⟨h.box.only ho (fun e => by have := hS _ e; omega), h.buf.only ho (fun k hk => ?_), h.rest.trans' ho (fun i hi e => by have := hS _ e; omega), h.tab.only ho (fun k e => ?_), Nat.le_trans hb ho.size, h.lt, h.new⟩
  · have hk' : some g = some k := hk
    intro e
    cases hk'
    have := hS _ e; omega
  · have h2 := hS _ e
    have h3 : 0 = 0 ∨ 0 ≤ O := by omega
    omega
/-- Bytes written over bytes that lie there. -/
theorem Buf.mid {w : World} {e : TypeId} {g n cap : Nat} {L L' : List UInt8} (h : Buf w e (.slice (some ⟨g, 0, none⟩) n cap) L) (k : Nat) (news : List UInt8) (hk : k + news.length ≤ L.length) (hn : setMany (L.map bv) k (news.map bv) = L'.map bv) :
    Buf (w.setCells g k (news.map bv)) e (.slice (some ⟨g, 0, none⟩) n cap) L' ∧ w.there g k news.length := by
  obtain ⟨g', cap', cur, lo, hi, hv', hh, hcs, hc, hm, hz, ht⟩ := h
  simp only [Value.slice.injEq, Option.some.injEq, Addr.mk.injEq, and_true] at hv'
  obtain ⟨rfl, rfl, rfl⟩ := hv'
  have hheap : ∀ (vs : List Value) (o : Nat) (W : World) (xs : List Value), W.heap[g]? = some (.cells xs.toArray e (lo, hi)) → (W.setCells g o vs).heap[g]? = some (.cells (setMany xs o vs).toArray e (lo, hi)) := by
    intro vs
    induction vs with
    | nil => intro o W xs h; exact h
    | cons u r ih =>
      intro o W xs h
      refine ih (o + 1) (W.setCell ⟨g, o, none⟩ u) (xs.set o u) ?_
      simp [World.setCell, Array.getElem?_modify, h]
  have h1 := hheap (news.map bv) k w cur.toList (by simpa using hh)
  have hlen : k + (news.map bv).length ≤ cur.toList.length := by simp; omega
  have hlen2 : k + (news.map bv).length ≤ (L.map bv).length := by simpa using hk
  have hL : L'.length = L.length := by
    have := congrArg List.length hn
    rw [setMany_eq _ _ _ hlen2] at this
    simp at this hlen2
    omega
  rw [setMany_eq _ _ _ hlen] at h1
  refine ⟨⟨g, cap, _, lo, hi, by rw [hL], h1, by simp at hlen ⊢; omega, by omega, hm, hz, ?_⟩, fun j hj => ⟨?_, ?_⟩⟩
  · rw [List.toList_toArray, ← hn, setMany_eq _ _ _ hlen2, ← ht, hL, List.length_map]
    rw [List.append_assoc, List.take_append, List.take_append, List.take_take, List.drop_take, List.append_assoc]
    simp only [List.length_take, List.length_map]
    have a1 : min k cur.toList.length = k := by simp; omega
    have a2 : min k L.length = k := by omega
    have a3 : min L.length k = k := by omega
    rw [a1]
    congr 1
    · rw [List.take_take, a2, a3]
    · congr 1
      · rw [List.take_of_length_le (by simp; omega)]
      · congr 1
        omega
  · unfold World.cell?
    simp only [hh]
    rw [if_neg (by simp), Array.getElem?_eq_getElem (by omega)]
    rfl
  · unfold World.frozen?
    simp only [hh]
    rcases hz with hz | hz
    · simp; omega
    · simp [hz]
theorem CombI.step {w : World} {O g c n : Nat} {L L' : List UInt8} {X : World} (h : CombI w O g c n L X) (k : Nat) (news : List UInt8) (hk : k + news.length ≤ L.length) (hn : setMany (L.map bv) k (news.map bv) = L'.map bv) (h0 : 0 < w.heap.size) : CombI w O g c n L' (X.setCells g k (news.map bv)) := by
  have hl := h.lt; have hnw := h.new; have hb := h.big
  have ho : Only (· = g) X (X.setCells g k (news.map bv)) := only_setCells (Only.refl (· = g) X) _ _ (.inl rfl) _
  refine ⟨h.box.only ho (fun e => by omega), (h.buf.mid k news hk hn).1, h.rest.trans' ho (fun i hi e => by omega), h.tab.only ho (fun k e => by have e' : k = g := e; omega), Nat.le_trans hb ho.size, h.lt, h.new⟩
set_option maxRecDepth 100000 in
set_option maxHeartbeats 1000000 in
theorem combine_any (key : Int) (h0 : -9223372036854775808 ≤ key) (h1 : key ≤ 9223372036854775807) (s : ByteArray) (hs : s.size ≤ 17592186044416) (w : World) (ht : Tab w) :
    Calls Tryd.prog 22 #[.int .i64 key, .string s] w (RetStr (combL key s.data.toList) w) := by
  have HT := Lib.hid ht
  clear ht
  refine callsIn_wide.1 (callsIn_of_wp_marks (n := 9) Tryd.func22 rfl trivial ?_ rfl)
  simp only [Tryd.ntmps22, List.size_toArray, List.length_cons, List.length_nil, Nat.reduceAdd, Nat.reduceSub, Array.replicate_succ, Array.replicate_zero, List.push_toArray, List.append_toArray, List.nil_append, List.cons_append]
  refine wpIn_wide.2 ?_
  go_wp2_with (refine wpList_convert_string rfl 9 32 5 (.tmp 9) rfl s rfl Tryd.underlying9 Tryd.underlying32 Tryd.underlying5 (by unfold maxLen; omega) _ w.heap.size rfl (Only.refl NoneOf _) ?_; intro g1 c1 w1 hb1 ho1 hg1a hg1b hc1 hc1m)
  refine (stream_any _ _).mono ?_
  rintro e w2 ⟨rfl, rfl⟩
  go_wp2_with fail
  have hO : g1 < w1.heap.size := hg1b
  have hsl : s.data.toList.length = s.size := by simp
  obtain ⟨l, el⟩ : ∃ l, l = s.data.toList := ⟨_, rfl⟩
  rw [← el] at hb1 hsl ⊢
  have hst : CombI w w1.heap.size g1 c1 s.size (outK key l 0) ((w1.alloc (.cells #[.slice (some ⟨g1, 0, none⟩) s.size c1] 32)).alloc (.cells #[.int .i64 key] 3)) :=
    ⟨(Blk.new w1 _ _).alloc _, by have := (hb1.out.alloc (.cells #[.slice (some ⟨g1, 0, none⟩) s.size c1] 32)).alloc (.cells #[.int .i64 key] 3); simpa [outK, combK] using this, (ho1.out.alloc _).alloc _, HT.out.none ((ho1.out.alloc _).alloc _), by simp, hO, hg1a⟩
  have HST := Lib.hid hst
  have HSL := Lib.hid hsl
  have htab := HST.out.tab
  have HTAB := Lib.hid htab
  have hu := c1
  have EL := Lib.hid el
  clear hst hsl htab hu el
  obtain ⟨O, eO⟩ : ∃ O, O = w1.heap.size := ⟨_, rfl⟩
  have hst2 := HST.out
  rw [← eO] at hst2
  have HST2 := Lib.hid hst2
  clear hst2
  refine (wpIn_wide (n := 9)).1 (wpIn_rangeFunc_ends (F := Fence.wide) rfl (show 1 ≤ 9 by omega) (gf := 44) (lb := #[.pointer (some ⟨w1.heap.size + 1, 0, none⟩)]) rfl trivial (enters_of Tryd.func44 (by kernel_rfl) rfl)
    (stream_ends 8 (w1.heap.size + 1) (s.size + 2) (by omega) key h0 h1 _ ?cA HTAB.out) kept1_t (kept1_b ?hA) (Below.refl _ _) ?sz
    (fun k X => CombI w w1.heap.size g1 c1 s.size (outK key l k) X ∧ (k = 0 ∨ 32 * (k - 1) < s.size)) (fun m X => ∃ x, m = x + 1 ∧ s.size ≤ 32 * x ∧ CombI w w1.heap.size g1 c1 s.size (outK key l x) X) 0 ?ownI ?ownX ?bound ?start
    (fun x a' X => ∃ Bb, w1.heap.size + 2 ≤ Bb ∧ Blk X Bb 41 ((shaL (streamS key x)).map bv).toArray ∧ a' = { tmps := #[.int .i64 key, .string s, undef, undef, .string ⟨#[]⟩, .pointer (some ⟨w1.heap.size, 0, none⟩), .int .i64 (x : Int), .pointer (some ⟨Bb, 0, none⟩), undef, .string s, .slice (some ⟨g1, 0, none⟩) s.size c1, .int .i64 key, .func (.func 44) #[] #[.pointer (some ⟨w1.heap.size + 1, 0, none⟩)], .int .i64 (x : Int), hv (shaL (streamS key x)), undef, undef, undef, undef, undef, undef, undef, undef, undef, undef, undef, undef, undef, undef, undef, undef, undef, undef, undef], defers := [] }) ?ownA ?assign ?body ?stop)
  case cA => exact new2_cell w1 _ _ _ 0
  case hA => simp
  case sz => exact fun _ => rfl
  case ownI => exact OwnFrom.and (fun _ _ _ _ h hg hr => h.grown hg (fun r e => ⟨Nat.le_trans ho1.out.size (Nat.le_trans (two_size w1 _ _) (hr r e).1), (hr r e).2⟩)) (fun _ _ _ _ h _ _ => h)
  case ownX =>
    rintro m X Y row ⟨x, h1, h2, h3⟩ hg hr
    exact ⟨x, h1, h2, h3.grown hg (fun r e => ⟨Nat.le_trans ho1.out.size (Nat.le_trans (two_size w1 _ _) (hr r e).1), (hr r e).2⟩)⟩
  case bound => rintro k X ⟨_, h | h⟩ <;> omega
  case start => exact ⟨HST.out, .inl rfl⟩
  case ownA =>
    rintro x a' s' X Y row ⟨Bb, h1, h2, h3⟩ hg hr
    exact ⟨Bb, h1, (cells_stay hg (fun r e => (hr r e).2) h2).trans h2, h3⟩
  case assign =>
    rintro rd x X K ⟨hI, hIx⟩ hK
    have HI := Lib.hid hI
    have HIX := Lib.hid hIx
    have HK := Lib.hid hK
    have hz : ((shaL (streamS key x)).map bv).toArray.size = 32 := by simp [shaL_len]
    have hthr : (X.alloc (.cells (Array.replicate 32 (.int .u8 0)) 41)).there X.heap.size 0 ((shaL (streamS key x)).map bv).toArray.size := (Blk.new X _ _).there 0 _ (by rw [hz]; simp)
    have hi41 : (Tryd.prog.info? 41).map (·.size) = some ((shaL (streamS key x)).map bv).toArray.size := by rw [hz]; kernel_rfl
    have hone : ((shaL (streamS key x)).map bv).toArray.all (·.oneCell') = true := all_oneCell_toArray (bvs_one _)
    have HTHR := Lib.hid hthr
    have HI41 := Lib.hid hi41
    have HONE := Lib.hid hone
    clear hI hIx hK hz hthr hi41 hone
    gi_wp2_with (refine wpListIn_store_mid rfl 41 (.tmp 7) (.tmp 14) rfl X.heap.size 0 ((shaL (streamS key x)).map bv).toArray rfl rfl HTHR.out HI41.out HONE.out ?_)
    have hno : Only (· = X.heap.size) (X.alloc (.cells (Array.replicate 32 (.int .u8 0)) 41)) ((X.alloc (.cells (Array.replicate 32 (.int .u8 0)) 41)).setCells X.heap.size 0 ((shaL (streamS key x)).map bv).toArray.toList) := only_setCells (Only.refl (· = X.heap.size) _) _ _ (.inl rfl) _
    exact HK.out _ _ ((KeepsFrom.of_grownBy (World.grownBy_alloc X _ none) (fun j e => by cases e)).trans ((keepsOthers_of_only hno (fun k hk => by have e' : k = X.heap.size := hk; subst e'; exact ⟨_, Blk.new X _ _, rfl⟩)).from _)) ⟨(hno.block _ (by have := HI.out.big; simp; omega) (by have := HI.out.big; omega)).trans (Below.heap_alloc _ _ _ (by have := HI.out.big; omega)), fun _ => ((HI.out.alloc _).only hno (fun k e => by have := HI.out.big; have e' : k = X.heap.size := e; omega)).tab⟩ ⟨(HI.out.alloc _).only hno (fun k e => by have := HI.out.big; have e' : k = X.heap.size := e; omega), HIX.out⟩ ⟨X.heap.size, HI.out.big, (Blk.new X _ _).filled _ (by simp [shaL_len]), rfl⟩
  case body =>
    rintro rd x a' X ⟨hI, hIx⟩ ⟨Bb, hBb, hblk, rfl⟩
    have HI := Lib.hid hI
    have HBLK := Lib.hid hblk
    have hbox := hI.box
    have HBOX := Lib.hid hbox
    have hx1 : (x : Int) * 32 ≤ 17592186044416 + 32 := by omega
    have hx0 : 0 ≤ (x : Int) := by omega
    have hbc : X.cell? ⟨w1.heap.size, 0, none⟩ = some (.slice (some ⟨g1, 0, none⟩) s.size c1) := hbox.cell 0
    clear hI hblk hbox
    gi_wp2
    · refine ⟨rfl, KeepsFrom.refl _ _, x, rfl, by omega, HI.out⟩
    · have hlt : 32 * x < l.length := by have := HSL.out; omega
      obtain ⟨m, hm⟩ : ∃ m, m = (seg l x).length := ⟨_, rfl⟩
      have hm2 : m = min 32 (s.size - 32 * x) := by rw [hm, seg_len, HSL.out]
      have hmm : (min (((x : Int) + 1) * 32) (s.size : Int)).toNat - x * 32 = m := by omega
      rw [hmm, Nat.mul_comm x 32]
      have hbuf := HI.out.buf
      have hbytes : BytesAt X g1 (32 * x) (seg l x) := by
        obtain ⟨g', cap', hv, _, _, _, hb⟩ := hbuf.form
        simp only [Value.slice.injEq, Option.some.injEq, Addr.mk.injEq, and_true] at hv
        obtain ⟨rfl, _, _⟩ := hv
        rw [← seg_out key l x]
        have := hb.part (32 * x) 32
        simpa using this
      have hlen : (xorL (shaL (streamS key x)) (seg l x)).length = m := by rw [xorL_len, shaL_len, ← hm]; omega
      have hstep := outK_step key l x hlt
      have hfit : 32 * x + (xorL (shaL (streamS key x)) (seg l x)).length ≤ (outK key l x).length := by rw [hlen, outK_len]; have := HSL.out; omega
      have hthere := (hbuf.mid (32 * x) (xorL (shaL (streamS key x)) (seg l x)) hfit hstep).2
      rw [hlen] at hthere
      have hg0 := HT.out.lt
      refine ⟨trivial, (CallsIn.inRound rd (callsIn_wide.2 (mix_any HBLK.out (shaL_len _) hm.symm (by omega) (by omega) (by unfold maxLen at hc1m ⊢; omega) hbytes hthere (by omega)))).mono ?_⟩
      rintro e X2 ⟨⟨v, rfl⟩, wr, ho, rfl⟩
      have hb1 : g1 < w1.heap.size := hg1b
      have h2 := ho.mono (S' := fun k => k = Bb ∨ k = g1) (fun k _ e => .inl e)
      have h3 := only_setCells h2 g1 (32 * x) (.inl (.inr rfl)) ((xorL (shaL (streamS key x)) (seg l x)).map bv)
      have hCI := (HI.out.only ho (fun k e => by have e' : k = Bb := e; omega)).step (32 * x) _ hfit hstep hg0
      have H3 := Lib.hid h3
      have HCI := Lib.hid hCI
      clear hbuf hbytes hstep hfit hthere h2 h3 hCI
      gi_wp2
      refine ⟨(keepsOthers_of_only H3.out (fun k hk => ?_)).from _, ⟨H3.out.block _ ?_ ?_, fun _ => HCI.out.tab⟩, HCI.out, .inr ?_⟩
      · rcases (show k = Bb ∨ k = g1 from hk) with e | e
        · subst e; exact ⟨_, HBLK.out, rfl⟩
        · subst e
          obtain ⟨g', cap, cur, lo, hi, hv, hh, _⟩ := HI.out.buf
          simp only [Value.slice.injEq, Option.some.injEq, Addr.mk.injEq, and_true] at hv
          obtain ⟨rfl, _⟩ := hv
          exact ⟨_, hh, rfl⟩
      · have := HI.out.big; omega
      · omega
      · have := HSL.out; simp; omega
  case stop =>
    rintro D k X hD ⟨x, rfl, hx, hI⟩ hK
    have HI := Lib.hid hI
    have HK := Lib.hid hK
    have hbc : X.cell? ⟨w1.heap.size, 0, none⟩ = some (.slice (some ⟨g1, 0, none⟩) s.size c1) := hI.box.cell 0
    have hbytes : BytesAt X g1 0 (combL key l) := by
      obtain ⟨g', cap', hv, _, _, _, hb⟩ := hI.buf.form
      simp only [Value.slice.injEq, Option.some.injEq, Addr.mk.injEq, and_true] at hv
      obtain ⟨rfl, _, _⟩ := hv
      rw [← outK_end key l x (by have := HSL.out; omega)]
      exact hb
    have HBY := Lib.hid hbytes
    clear hI hK hbytes
    gi_wp2
    go_wp2_with (refine wpList_convert_back rfl 32 9 5 (.tmp 32) rfl g1 0 s.size c1 rfl (combL key l) (by rw [combL_len]; exact HSL.out) HBY.out Tryd.underlying32 Tryd.underlying5 Tryd.underlying9 ?_)
    refine ⟨by simp, .inl ⟨_, _, rfl, run_takeDeferred HK.out, ?_⟩⟩
    rw [← EL.out]
    have hD2 : w.heap.size ≤ D := by have := hD; have := ho1.out.size; simp at hD; omega
    exact ⟨_, results_tmp rfl _ _ _, ⟨_, rfl, rfl, HI.out.rest.grown (grownBy_putObj' _ D _) (fun k e => by cases e; exact .inr hD2)⟩⟩
end Go.Proofs.YtdgapomeenigbaaDoor
