/- What is proved here: several parts. the padding of the reference's SHA-256. Conditions: what is summed is shorter than 2^45 bytes. · a region that draws its order, whose operations are quiet but for a last part in a forced order: one walk serves every order; no function of the program. No conditions. · a block of the reference's SHA-256. Conditions: the block has 64 bytes. · the reference's SHA-256, whole. Conditions: what is summed is shorter than 2^45 bytes. -/
import Derived.Test.YtpdlbmieciabmaaDoorM2
import Derived.Test.YtpdlbmieciabmaaDoorRows
import Derived.StillTail
import Derived.Deep.Quiet
import Derived.Deep.QuietTactic
import Derived.BigQuiet
namespace Go.Proofs.YtpdlbmieciabmaaDoor
open Go.RowKit

def strLen : Value → Nat
  | .string t => t.size
  | _ => 0
def Pad1 (s : ByteArray) (k : Nat) (v : Value) : Prop := ∃ (i : Nat) (t : ByteArray), v = .string t ∧ t.data.toList = s.data.toList ++ [0x80] ++ List.replicate i 0 ∧ t.size = s.size + 1 + i ∧ i ≤ k
def Pad2 (s : ByteArray) (k j : Nat) (v : Value) : Prop := ∃ (t : ByteArray), v = .string t ∧ t.data.toList = s.data.toList ++ [0x80] ++ List.replicate k 0 ++ (be8 (8 * s.size)).take j ∧ t.size = s.size + 1 + k + j
theorem append_list (a b : ByteArray) : (a ++ b).data.toList = a.data.toList ++ b.data.toList := by simp
theorem app_size (a : ByteArray) (x : UInt8) : (a ++ ⟨#[x]⟩ : ByteArray).size = a.size + 1 := by
  rw [ByteArray.size_append]; rfl
theorem be8_take (n : Nat) {j : Nat} (h : j < 8) : (be8 n).take (j + 1) = (be8 n).take j ++ [UInt8.ofNat (n / 2 ^ (8 * (7 - j)))] := by
  rcases eight h with rfl | rfl | rfl | rfl | rfl | rfl | rfl | rfl <;> rfl
theorem pad2_step {s t : ByteArray} {k j : Nat} (ht : t.data.toList = s.data.toList ++ [0x80] ++ List.replicate k 0 ++ (be8 (8 * s.size)).take j) (hz : t.size = s.size + 1 + k + j) (hj : j < 8) :
    Pad2 s k (j + 1) (.string (t ++ ⟨[UInt8.ofNat (8 * s.size / 2 ^ (8 * (7 - j)))].toArray⟩)) := by
  refine ⟨_, rfl, ?_, ?_⟩
  · rw [append_list, ht, be8_take _ hj]
    simp
  · rw [ByteArray.size_append, hz]
    show _ + 1 = _
    omega
end Go.Proofs.YtpdlbmieciabmaaDoor
namespace Go.Proofs.YtpdlbmieciabmaaDoor
open Go.RowKit

theorem quiet_again {P : Program} {f : FuncId} {args : Array Value} {w : World} {a n : Nat} {v : Value} (c : ∀ W : World, Calls P f args W fun e w' => e = .returned v ∧ ∃ q, w' = W.drewN q) :
    Calls P f args (w.drewN (a + n)) fun e w' => e = .returned v ∧ ∃ q, w' = w.drewN (a + q) :=
  (c _).mono fun _ _ ⟨he, q, hq⟩ => ⟨he, n + q, by rw [hq, World.drewN_drewN, Nat.add_assoc]⟩
section
variable {P : Program} {ops : Array Oper} {md : Region.Mode} {C : World → Prop}
/-- The head's operations, in whatever order, each quiet; L behind them. -/
def headAny (P : Program) (md : Region.Mode) (ops : Array Oper) (C : World → Prop) (n : Nat) (L : Array Bool → Act → Prop) : Nat → Array Bool → Act → Prop
  | 0, done, a => L done a
  | f + 1, done, a => Region.ready md ops done ≠ [] ∧ ∀ i, i ∈ Region.ready md ops done → i < n ∧ qOp P ops C i (headAny P md ops C n L f (done.setIfInBounds i true)) a
theorem any_of_head {n g : Nat} {L : Array Bool → Act → Prop} {Q : Exit → Act → World → Prop} (hL : ∀ done a w, C w → L done a → wpAny P md ops Q g done a w) (f : Nat) :
    ∀ (done : Array Bool) (a : Act) (w : World), C w → headAny P md ops C n L f done a → wpAny P md ops Q (f + g) done a w := by
  induction f with
  | zero => intro done a w hw h; rw [Nat.zero_add]; exact hL _ _ _ hw h
  | succ f ih =>
    intro done a w hw h
    rw [Nat.add_right_comm]
    exact ⟨fun e => absurd e h.1, fun i hi => wpOp_of_qOp hw (fun a' w' hw' h' => ih _ a' w' hw' h') (h.2 i hi).2⟩
theorem head_first {n i : Nat} {o : Oper} {v : Value} {L : Array Bool → Act → Prop} (hi : ops[i]? = some o) (hsel : ∀ (j : Nat) (o : Oper) cs b, ops[j]? = some o → o.op ≠ .select cs b)
    (hs : Region.sinkB md ops n = true) (hc : Region.chainB md ops n = true) (hn : n < ops.size) (hin : i < n) (hd : ∀ done a, L done a → ∀ j ∈ Region.ready md ops done, n ≤ j) (f : Nat) :
    ∀ (done : Array Bool) (a : Act), HeadInv md ops n done →
      (∀ j oj, ops[j]? = some oj → j ≠ i → done.getD j true = false → (∀ e ∈ oj.after, Region.binds md e = true → e.on ≠ i) → o.apart ops oj = true) →
      i ∈ Region.ready md ops done → YieldsIn P ops C o v a → headAny P md ops C n L f (done.setIfInBounds i true) (a.put o.dst v) → headAny P md ops C n L (f + 1) done a := by
  induction f with
  | zero =>
    intro done a inv _ hr hy H
    refine ⟨(fun e => by rw [e] at hr; cases hr), fun j hj => ?_⟩
    by_cases hji : j = i
    · rw [hji]; exact ⟨hin, hy.qOp hi H⟩
    · exfalso
      have h1 := hd _ _ H j (ready_mono hj hji)
      exact tail_waits hs hc hn inv _ i rfl hin (mem_ready.1 hr).1 j h1 hj
  | succ f ih =>
    intro done a inv hfree hr hy H
    have hun := (mem_ready.1 hr).1
    refine ⟨(fun e => by rw [e] at hr; cases hr), fun j hj => ?_⟩
    have hjn : j < n := Nat.lt_of_not_le fun h => tail_waits hs hc hn inv _ i rfl hin hun j h hj
    refine ⟨hjn, ?_⟩
    by_cases hji : j = i
    · rw [hji]; exact hy.qOp hi H
    · obtain ⟨hju, oj, hoj, hall⟩ := mem_ready.1 hj
      have hno : ∀ e ∈ oj.after, Region.binds md e = true → e.on ≠ i := fun e he hb h => by
        have := hall e he hb
        rw [h, getD_both hun] at this
        cases this
      have step := qOp_put hoj (hfree j oj hoj hji hju hno) (fun cs b => hsel i o cs b hi) (fun cs b => hsel j oj cs b hoj) hy (H.2 j (ready_mono hj hji)).2
      refine qOp_mono (fun a' h' => ih _ a' (inv.set hj hjn) (fun k ok hk hki hku hkn => hfree k ok hk hki ?_ hkn) (ready_mono hr (Ne.symm hji)) h'.1 ?_) step
      · rcases Nat.lt_trichotomy j k with h | h | h
        · rwa [getD_set_ne true (by omega)] at hku
        · subst h; exact hju
        · rwa [getD_set_ne true (by omega)] at hku
      · rw [Array.setIfInBounds_comm _ _ hji]; exact h'.2
theorem head_lex {n g : Nat} {Lq : Act → Prop} (hsel : Region.noSelect ops = true) (hs : Region.sinkB md ops n = true) (hc : Region.chainB md ops n = true) (hn : n < ops.size) (l : List Oper) :
    ∀ (k : Nat) (done : Array Bool) (a : Act), (∀ j, j < l.length → l[j]? = ops[k + j]?) → k + l.length = n → HeadInv md ops n done → Region.lexHead md ops g l.length k done = true → wpQuiet P ops C Lq l a →
    headAny P md ops C n (fun done' a' => Region.seqB md ops g n done' = true ∧ Lq a') l.length done a := by
  induction l with
  | nil =>
    intro k done a _ hk _ hB h
    obtain rfl : k = n := by simpa using hk
    exact ⟨by simpa [Region.lexHead] using hB, h⟩
  | cons o l ih =>
    intro k done a hl hk inv hB h
    have h0 : ops[k]? = some o := by simpa using (hl 0 (by simp)).symm
    simp only [List.length_cons] at hk
    simp only [List.length_cons, Region.lexHead, Bool.and_eq_true] at hB
    have hr : k ∈ Region.ready md ops done := by simpa using hB.1.1
    have hq : qOp P ops C k (wpQuiet P ops C Lq l) a := by unfold qOp; rw [h0]; exact h
    obtain ⟨v, hy, hK⟩ := yieldsIn_of_qOp h0 hq
    refine head_first h0 (Region.noSelect_spec hsel) hs hc hn (by omega) (fun _ _ hL => seqB_ready hL.1) l.length done a inv (Region.free_spec h0 hB.1.2) hr hy (ih (k + 1) _ _ (fun j hj => ?_) (by omega) (inv.set hr (by omega)) hB.2 hK)
    have := hl (j + 1) (by simp; omega)
    rw [Nat.add_assoc, Nat.add_comm 1 j]
    simpa using this
/-- The law: the first n operations quiet, at the class of the worlds after some draws; then the rest, as a plain list, from any of these. -/
theorem wp_region_quiet_tail {id : Nat} {Q : Exit → Act → World → Prop} {a : Act} {w : World} {l : List Oper} (n : Nat) (hm : P.follows .mixedOrders = true) (hB : Region.lexTailB .any l.toArray n = true)
    (h : wpQuiet P l.toArray (fun w' => ∃ q, w' = w.drewN q) (fun a' => ∀ q, wpList P l.toArray Q (l.drop n) a' (w.drewN q)) (l.take n) a) : (Code.region id l.toArray true).wp P Q a w := by
  simp only [Region.lexTailB, Bool.and_eq_true, decide_eq_true_eq] at hB
  obtain ⟨⟨⟨⟨hsel, hn⟩, hs⟩, hc⟩, hlex⟩ := hB
  have hn' : n < l.length := by simpa using hn
  have htl : (l.take n).length = n := by rw [List.length_take]; omega
  have hdl : (l.drop n).length = l.toArray.size - n := by simp
  have inv0 : HeadInv .any l.toArray n (Array.replicate l.toArray.size false) :=
    ⟨by simp, fun j _ _ hl => (by rw [getD_replicate_false] at hl; cases hl), fun t _ ht => getD_in (by simpa using ht) (getD_replicate_false _ _)⟩
  have H := head_lex (g := l.toArray.size - n) hsel hs hc hn (l.take n) 0 _ a (fun j hj => by
    have : j < n := by rwa [htl] at hj
    simp [this]) (by simpa using htl) inv0 (by rw [htl]; exact hlex) h
  refine wp_region_any hm ?_
  have key := any_of_head (Q := Q) (g := l.toArray.size - n) (fun done a' w' hw' hL => by
    obtain ⟨q, rfl⟩ := hw'
    have := wpAny_of_seq (md := .any) (Q' := Q) (l.drop n) n done a' (w.drewN q) (fun j => by simp [List.getElem?_drop]) (by rw [hdl]; exact hL.1) (hL.2 q)
    rwa [hdl] at this) _ _ _ { w with drawn := w.drawn + 1 } ⟨1, rfl⟩ H
  rw [htl, show n + (l.toArray.size - n) = l.toArray.size by omega] at key
  exact key
end
end Go.Proofs.YtpdlbmieciabmaaDoor
namespace Go.Proofs.YtpdlbmieciabmaaDoor
open Go.RowKit

theorem str_get (b : ByteArray) (k : Nat) (h : k < b.size) : b.data.toList[k]? = some b[k] := by
  rw [List.getElem?_eq_getElem (by simpa using h)]
  rfl
theorem bw_mod (x : UInt8) : (x.toNat : Int) % 4294967296 = ((bw x).toNat : Int) := by
  rw [← bw_nat]; have := x.toNat_lt; omega
theorem ref_word (b : ByteArray) (i : Nat) (h0 : 4 * i < b.size) (h1 : 4 * i + 1 < b.size) (h2 : 4 * i + 2 < b.size) (h3 : 4 * i + 3 < b.size) :
    bits .or .u32 (bits .or .u32 (bits .or .u32 ((b[4 * i].toNat : Int) % 4294967296 * 16777216 % 4294967296) ((b[4 * i + 1].toNat : Int) % 4294967296 * 65536 % 4294967296)) ((b[4 * i + 2].toNat : Int) % 4294967296 * 256 % 4294967296)) ((b[4 * i + 3].toNat : Int) % 4294967296) = ((wordAt b.data.toList i).toNat : Int) := by
  rw [bw_mod, bw_mod, bw_mod, bw_mod, w_shlk _ 24 16777216 (by decide), w_shlk _ 16 65536 (by decide), w_shlk _ 8 256 (by decide), w_or, w_or, w_or,
    wordAt_of (str_get b _ h0) (str_get b _ h1) (str_get b _ h2) (str_get b _ h3)]
theorem vals_one (t : St) : t.vals.toArray.all (·.oneCell') = true := all_oneCell_toArray (fun v hv => by
  simp only [St.vals, List.mem_cons, List.not_mem_nil, or_false] at hv
  rcases hv with rfl | rfl | rfl | rfl | rfl | rfl | rfl | rfl <;> rfl)
theorem wpList_store8 {P : Program} {w : World} {ops : Array Oper} {rest : List Oper} {o : Oper} {a : Act} {Q : Exit → Act → World → Prop} (hgd : o.guard = none) (ty : TypeId) (x y : Operand) (ho : o.op = .store ty x y)
    (V : Nat) (hx : a.eval x = .pointer (some ⟨V, 0, none⟩)) {x0 x1 x2 x3 x4 x5 x6 x7 : Int} (hy : a.eval y = .agg #[.int .u32 x0, .int .u32 x1, .int .u32 x2, .int .u32 x3, .int .u32 x4, .int .u32 x5, .int .u32 x6, .int .u32 x7])
    {t : TypeId} {cs : Array Value} (hb : Blk w V t cs) (hc : cs.size = 8) (hi : (P.info? ty).map (·.size) = some 8)
    (h : ∀ w', Hid (w' = w.setCells V 0 [.int .u32 x0, .int .u32 x1, .int .u32 x2, .int .u32 x3, .int .u32 x4, .int .u32 x5, .int .u32 x6, .int .u32 x7]) → wpList P ops Q rest (a.put o.dst undef) w') : wpList P ops Q (o :: rest) a w :=
  wpList_store_mid hgd ty x y ho V 0 _ hx hy (hb.there 0 8 (by omega)) hi (by simp [Value.oneCell']) (h _ (rfl : _ = _))
theorem cons_eq {a b : Value} {l m : List Value} (h : a = b) (h' : l = m) : a :: l = b :: m := by rw [h, h']
end Go.Proofs.YtpdlbmieciabmaaDoor
namespace Go.Proofs.YtpdlbmieciabmaaDoor
open Go.RowKit

theorem quiet_load_row {P : Program} {w : World} {o : Oper} {a : Act} {K : Act → Prop} (ty : TypeId) (x : Operand) (ho : o.op = .load ty x) (g : Nat) (hx : a.eval x = .pointer (some ⟨g, 0, none⟩)) {t : TypeId} {cs : Array Value} {d : TypeDesc}
    (hb : Blk w g t cs) (hu : P.underlying ty = some d) (hd : d.isRow = true) (hi : (P.info? ty).map (·.size) = some cs.size) (h : K (a.put o.dst (.agg cs))) : o.quiet P a (fun w' => ∃ q, w' = w.drewN q) K := by
  refine ⟨.agg cs, fun w' ⟨q, e⟩ => ?_, h⟩
  subst e
  have hr : (w.drewN q).rangeAt g 0 cs.toList := fun j v hv => by rw [Nat.zero_add, (hb.drewN q).cell]; simpa using hv
  have hl := run_loadVar_mid (P := P) (w.drewN q) g 0 ty cs.toList d hr hu hd (by simpa using hi)
  unfold Oper.quietAt execOp
  simp only [ho, hx, Instr.loadAt, Instr.sureAddr, Sem.run_bind, Sem.run_pure, Result.andThen_ok, hl]
  exact ⟨rfl, by simp⟩
theorem be4_get (L : List W) (j r : Nat) (hr : r < 4) (x : W) (hx : L[j]? = some x) : (L.flatMap be4)[4 * j + r]? = (be4 x)[r]? := by
  induction L generalizing j with
  | nil => simp at hx
  | cons y l ih =>
    rw [List.flatMap_cons]
    cases j with
    | zero =>
      simp at hx; subst hx
      rw [List.getElem?_append_left (by rw [be4_len]; omega)]
      simp
    | succ j =>
      rw [List.getElem?_append_right (by rw [be4_len]; omega), be4_len, show 4 * (j + 1) + r - 4 = 4 * j + r by omega]
      exact ih j (by simpa using hx)
theorem be4_at (x : W) {r : Nat} (hr : r < 4) : (be4 x)[r]? = some (UInt8.ofNat (x.toNat / 2 ^ (8 * (3 - r)))) := by
  have : r = 0 ∨ r = 1 ∨ r = 2 ∨ r = 3 := by omega
  rcases this with rfl | rfl | rfl | rfl <;> rfl
theorem words_get (t : St) {j : Nat} (h : j < 8) : (words t)[j]? = some (sw t j) := by
  rcases eight h with rfl | rfl | rfl | rfl | rfl | rfl | rfl | rfl <;> rfl
theorem hashL_at (t : St) {i : Nat} (h : i < 32) : (hashL t)[i]? = some (UInt8.ofNat ((sw t (i / 4)).toNat / 2 ^ (8 * (3 - i % 4)))) := by
  have h1 := be4_get (words t) (i / 4) (i % 4) (by omega) (sw t (i / 4)) (words_get t (by omega))
  rw [show 4 * (i / 4) + i % 4 = i by omega, be4_at _ (by omega)] at h1
  exact h1
theorem hashL_len (t : St) : (hashL t).length = 32 := by rw [hashL, be4_flat]; rfl
def outB (t : St) (i : Nat) : List Value := ((hashL t).take i).map bv ++ List.replicate (32 - i) (.int .u8 0)
theorem outB_set (t : St) {i : Nat} (h : i < 32) : (outB t i).toArray.setIfInBounds i (bv (UInt8.ofNat ((sw t (i / 4)).toNat / 2 ^ (8 * (3 - i % 4))))) = (outB t (i + 1)).toArray := by
  have hl : (((hashL t).take i).map bv).length = i := by simp [hashL_len]; omega
  have hg := hashL_at t h
  have ht : (hashL t).take (i + 1) = (hashL t).take i ++ [UInt8.ofNat ((sw t (i / 4)).toNat / 2 ^ (8 * (3 - i % 4)))] := by
    rw [List.take_add_one, hg]; rfl
  rw [outB, outB, ht, List.setIfInBounds_toArray, List.set_append_right _ _ (by omega), hl, Nat.sub_self, show 32 - i = (32 - (i + 1)) + 1 by omega, List.replicate_succ, List.set_cons_zero, List.map_append, List.append_assoc]
  rfl
theorem outB_size (t : St) {i : Nat} (h : i ≤ 32) : (outB t i).toArray.size = 32 := by simp [outB, hashL_len]; omega
theorem outB_zero (t : St) {i : Nat} (h : i < 32) : (outB t i).toArray[i]? = some (.int .u8 0) := by
  have hl : (((hashL t).take i).map bv).length = i := by simp [hashL_len]; omega
  rw [outB, List.getElem?_toArray, List.getElem?_append_right (by omega), hl, List.getElem?_replicate, if_pos (by omega)]
theorem outB_all (t : St) : outB t 32 = (hashL t).map bv := by
  rw [outB, List.take_of_length_le (by rw [hashL_len]; omega)]; simp
theorem cut_piece (t : ByteArray) (i : Nat) (h : 64 * i + 64 ≤ t.size) : (t.extract (64 * i) (64 * i + 64)).size = 64 ∧ (t.extract (64 * i) (64 * i + 64)).data.toList = pieceOf t.data.toList i := by
  constructor
  · rw [ByteArray.size_extract]; omega
  · rw [ByteArray.data_extract, Array.toList_extract]
    simp [pieceOf]
end Go.Proofs.YtpdlbmieciabmaaDoor
