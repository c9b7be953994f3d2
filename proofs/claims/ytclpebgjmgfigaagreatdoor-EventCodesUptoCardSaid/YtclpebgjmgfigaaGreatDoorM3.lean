/- What is proved here: several parts. the padding of the reference's SHA-256. Conditions: what is summed is shorter than 2^45 bytes. · a region that draws its order, whose operations are quiet but for a last part in a forced order: one walk serves every order; no function of the program. No conditions. · a block of the reference's SHA-256. Conditions: the block has 64 bytes. · the reference's SHA-256, whole. Conditions: what is summed is shorter than 2^45 bytes. -/
import Derived.Test.YtclpebgjmgfigaaGreatDoorM2
import Derived.Test.YtclpebgjmgfigaaGreatDoorRows
import Derived.StillTail
import Derived.Deep.Quiet
import Derived.Deep.QuietTactic
import Derived.BigQuiet
namespace Go.Proofs.YtclpebgjmgfigaaGreatDoor
open Go.RowKit

def strLen : Value → Nat
  | .string t => t.size
  | _ => 0
def Pad1 (s : ByteArray) (k : Nat) (v : Value) : Prop := ∃ (i : Nat) (t : ByteArray), v = .string t ∧ t.data.toList = s.data.toList ++ [0x80] ++ List.replicate i 0 ∧ t.size = s.size + 1 + i ∧ i ≤ k
def Pad2 (s : ByteArray) (k j : Nat) (v : Value) : Prop := ∃ (t : ByteArray), v = .string t ∧ t.data.toList = s.data.toList ++ [0x80] ++ List.replicate k 0 ++ (be8 (8 * s.size)).take j ∧ t.size = s.size + 1 + k + j
theorem append_list (a b : ByteArray) : (a ++ b).data.toList = a.data.toList ++ b.data.toList := by simp
theorem app_size (a : ByteArray) (x : UInt8) : (a ++ ⟨#[x]⟩ : ByteArray).size = a.size + 1 := by
  rw [ByteArray.size_append]; rfl
theorem be8_take (n : Nat) {j : Nat} (h : j < 8) : (be8 n).take (j + 1) = (be8 n).take j ++ [UInt8.ofNat (n / 2 ^ (8 * (7 - j)))] := by
  rcases eight h with rfl | rfl | rfl | rfl | rfl | rfl | rfl | rfl <;> rfl
theorem pad2_step {s t : ByteArray} {k j : Nat} (ht : t.data.toList = s.data.toList ++ [0x80] ++ List.replicate k 0 ++ (be8 (8 * s.size)).take j) (hz : t.size = s.size + 1 + k + j) (hj : j < 8) :
    Pad2 s k (j + 1) (.string (t ++ ⟨[UInt8.ofNat (8 * s.size / 2 ^ (8 * (7 - j)))].toArray⟩)) := by
  refine ⟨_, rfl, ?_, ?_⟩
  · rw [append_list, ht, be8_take _ hj]
    simp
  · rw [ByteArray.size_append, hz]
    show _ + 1 = _
    omega
set_option maxRecDepth 100000 in
set_option maxHeartbeats 1000000 in
theorem padded_any (s : ByteArray) (w : World) (hs : s.size ≤ 35184372088832) :
    Calls Tryz.prog 63 #[.string s] w fun e w' => (∃ t : ByteArray, e = .returned (.string t) ∧ t.data.toList = padded s.data.toList) ∧ Only NoneOf w w' := by
  obtain ⟨k, ek⟩ : ∃ k, k = padN s.size := ⟨_, rfl⟩
  have bk : k < 64 := by rw [ek]; unfold padN; omega
  have EK := Lib.hid ek
  clear ek
  go_enter Tryz.func63, Tryz.ntmps63
  go_wp2_with fail
  go_loop [3] (fun v => Pad1 s k v) (fun v => s.size + 65 - strLen v)
  case atStart => exact ⟨0, _, rfl, by simp, by rw [app_size], by omega⟩
  case round =>
    obtain ⟨i, t, rfl, ht, hz, hi⟩ := hrel
    have HT := Lib.hid ht
    have HZ := Lib.hid hz
    have bt : t.size ≤ 35184372088900 := by omega
    clear ht hz
    by_cases hlt : i < k
    · have htest : ((t.size : Int) % 64 != 56) = true := by
        have h1 := HZ.out; have h2 := EK.out; unfold padN at h2
        have : ¬ ((t.size : Int) % 64 = 56) := by omega
        simpa using this
      go_wp2_with fail
      go_round
      case rel => exact ⟨i + 1, _, rfl, by rw [append_list, HT.out, List.replicate_succ']; simp, by have := HZ.out; rw [app_size]; omega, by omega⟩
      case measure => have := HZ.out; have h2 : (⟨#[0]⟩ : ByteArray).size = 1 := rfl; simp [strLen]; omega
    · obtain rfl : i = k := by omega
      have htest : ((t.size : Int) % 64 != 56) = false := by
        have h1 := HZ.out; have h2 := EK.out; unfold padN at h2
        have : ((t.size : Int) % 64 = 56) := by omega
        simpa using this
      go_wp2_with fail
      have hp2 : Pad2 s i 0 (.string t) := ⟨t, rfl, by rw [HT.out]; simp, by have := HZ.out; omega⟩
      go_loopw [3, 5] (fun v3 v5 wr => ∃ j : Nat, j ≤ 8 ∧ v5 = .int .i64 (7 - (j : Int)) ∧ Pad2 s i j v3 ∧ Only NoneOf w wr) (fun _ v _ => (intOf v + 1).toNat)
      case atStart => exact ⟨0, by omega, rfl, hp2, Only.refl _ _⟩
      case round =>
        clear hp2 HT HZ bt
        obtain ⟨j, hj, rfl, ⟨u, rfl, hu, huz⟩, ho⟩ := hrel
        have HU := Lib.hid hu
        have HUZ := Lib.hid huz
        have HO := Lib.hid ho
        have bu : u.size ≤ 35184372088910 := by omega
        clear hu huz ho
        by_cases h8 : j < 8
        · obtain ⟨b, eb⟩ : ∃ b, b = UInt8.ofNat (8 * s.size / 2 ^ (8 * (7 - j))) := ⟨_, rfl⟩
          have hst := fun h1 h2 => pad2_step (s := s) (t := u) (k := i) (j := j) h1 h2 h8
          rw [← eb] at hst
          have HST := Lib.hid (hst HU.out HUZ.out)
          have EB := Lib.hid eb
          clear hst eb HU HUZ
          have tok : True := trivial
          rcases eight h8 with rfl | rfl | rfl | rfl | rfl | rfl | rfl | rfl
          all_goals
            go_wp2_with (have _t := tok; refine wpList_convert_back rfl 39 9 5 (.tmp 28) rfl wr.heap.size 0 1 1 rfl [b] rfl (bytesAt_one _ _ _ _ ?hv) Tryz.underlying39 Tryz.underlying5 Tryz.underlying9 ?_; clear tok _t)
            case hv => rw [EB.out]; simp; omega
            go_roundw
            case rel => exact ⟨_, by omega, by go_num, HST.out, HO.out.alloc _⟩
            case measure => simp [intOf]
        · obtain rfl : j = 8 := by omega
          go_wp2_with fail
          go_ret
          refine ⟨⟨u, rfl, ?_⟩, HO.out⟩
          have e2 : (be8 (8 * s.size)).take 8 = be8 (8 * s.size) := rfl
          have hl : s.data.toList.length = s.size := by simp
          rw [HU.out, e2, padded, hl, ← EK.out]
          simp
end Go.Proofs.YtclpebgjmgfigaaGreatDoor
namespace Go.Proofs.YtclpebgjmgfigaaGreatDoor
open Go.RowKit

theorem quiet_again {P : Program} {f : FuncId} {args : Array Value} {w : World} {a n : Nat} {v : Value} (c : ∀ W : World, Calls P f args W fun e w' => e = .returned v ∧ ∃ q, w' = W.drewN q) :
    Calls P f args (w.drewN (a + n)) fun e w' => e = .returned v ∧ ∃ q, w' = w.drewN (a + q) :=
  (c _).mono fun _ _ ⟨he, q, hq⟩ => ⟨he, n + q, by rw [hq, World.drewN_drewN, Nat.add_assoc]⟩
section
variable {P : Program} {ops : Array Oper} {md : Region.Mode} {C : World → Prop}
/-- The head's operations, in whatever order, each quiet; L behind them. -/
def headAny (P : Program) (md : Region.Mode) (ops : Array Oper) (C : World → Prop) (n : Nat) (L : Array Bool → Act → Prop) : Nat → Array Bool → Act → Prop
  | 0, done, a => L done a
  | f + 1, done, a => Region.ready md ops done ≠ [] ∧ ∀ i, i ∈ Region.ready md ops done → i < n ∧ qOp P ops C i (headAny P md ops C n L f (done.setIfInBounds i true)) a
theorem any_of_head {n g : Nat} {L : Array Bool → Act → Prop} {Q : Exit → Act → World → Prop} (hL : ∀ done a w, C w → L done a → wpAny P md ops Q g done a w) (f : Nat) :
    ∀ (done : Array Bool) (a : Act) (w : World), C w → headAny P md ops C n L f done a → wpAny P md ops Q (f + g) done a w := by
  induction f with
  | zero => intro done a w hw h; rw [Nat.zero_add]; exact hL _ _ _ hw h
  | succ f ih =>
    intro done a w hw h
    rw [Nat.add_right_comm]
    exact ⟨fun e => absurd e h.1, fun i hi => wpOp_of_qOp hw (fun a' w' hw' h' => ih _ a' w' hw' h') (h.2 i hi).2⟩
theorem head_first {n i : Nat} {o : Oper} {v : Value} {L : Array Bool → Act → Prop} (hi : ops[i]? = some o) (hsel : ∀ (j : Nat) (o : Oper) cs b, ops[j]? = some o → o.op ≠ .select cs b)
    (hs : Region.sinkB md ops n = true) (hc : Region.chainB md ops n = true) (hn : n < ops.size) (hin : i < n) (hd : ∀ done a, L done a → ∀ j ∈ Region.ready md ops done, n ≤ j) (f : Nat) :
    ∀ (done : Array Bool) (a : Act), HeadInv md ops n done →
      (∀ j oj, ops[j]? = some oj → j ≠ i → done.getD j true = false → (∀ e ∈ oj.after, Region.binds md e = true → e.on ≠ i) → o.apart ops oj = true) →
      i ∈ Region.ready md ops done → YieldsIn P ops C o v a → headAny P md ops C n L f (done.setIfInBounds i true) (a.put o.dst v) → headAny P md ops C n L (f + 1) done a := by
  induction f with
  | zero =>
    intro done a inv _ hr hy H
    refine ⟨(fun e => by rw [e] at hr; cases hr), fun j hj => ?_⟩
    by_cases hji : j = i
    · rw [hji]; exact ⟨hin, hy.qOp hi H⟩
    · exfalso
      have h1 := hd _ _ H j (ready_mono hj hji)
      exact tail_waits hs hc hn inv _ i rfl hin (mem_ready.1 hr).1 j h1 hj
  | succ f ih =>
    intro done a inv hfree hr hy H
    have hun := (mem_ready.1 hr).1
    refine ⟨(fun e => by rw [e] at hr; cases hr), fun j hj => ?_⟩
    have hjn : j < n := Nat.lt_of_not_le fun h => tail_waits hs hc hn inv _ i rfl hin hun j h hj
    refine ⟨hjn, ?_⟩
    by_cases hji : j = i
    · rw [hji]; exact hy.qOp hi H
    · obtain ⟨hju, oj, hoj, hall⟩ := mem_ready.1 hj
      have hno : ∀ e ∈ oj.after, Region.binds md e = true → e.on ≠ i := fun e he hb h => by
        have := hall e he hb
        rw [h, getD_both hun] at this
        cases this
      have step := qOp_put hoj (hfree j oj hoj hji hju hno) (fun cs b => hsel i o cs b hi) (fun cs b => hsel j oj cs b hoj) hy (H.2 j (ready_mono hj hji)).2
      refine qOp_mono (fun a' h' => ih _ a' (inv.set hj hjn) (fun k ok hk hki hku hkn => hfree k ok hk hki ?_ hkn) (ready_mono hr (Ne.symm hji)) h'.1 ?_) step
      · rcases Nat.lt_trichotomy j k with h | h | h
        · rwa [getD_set_ne true (by omega)] at hku
        · subst h; exact hju
        · rwa [getD_set_ne true (by omega)] at hku
      · rw [Array.setIfInBounds_comm _ _ hji]; exact h'.2
theorem head_lex {n g : Nat} {Lq : Act → Prop} (hsel : Region.noSelect ops = true) (hs : Region.sinkB md ops n = true) (hc : Region.chainB md ops n = true) (hn : n < ops.size) (l : List Oper) :
    ∀ (k : Nat) (done : Array Bool) (a : Act), (∀ j, j < l.length → l[j]? = ops[k + j]?) → k + l.length = n → HeadInv md ops n done → Region.lexHead md ops g l.length k done = true → wpQuiet P ops C Lq l a →
    headAny P md ops C n (fun done' a' => Region.seqB md ops g n done' = true ∧ Lq a') l.length done a := by
  induction l with
  | nil =>
    intro k done a _ hk _ hB h
    obtain rfl : k = n := by simpa using hk
    exact ⟨by simpa [Region.lexHead] using hB, h⟩
  | cons o l ih =>
    intro k done a hl hk inv hB h
    have h0 : ops[k]? = some o := by simpa using (hl 0 (by simp)).symm
    simp only [List.length_cons] at hk
    simp only [List.length_cons, Region.lexHead, Bool.and_eq_true] at hB
    have hr : k ∈ Region.ready md ops done := by simpa using hB.1.1
    have hq : qOp P ops C k (wpQuiet P ops C Lq l) a := by unfold qOp; rw [h0]; exact h
    obtain ⟨v, hy, hK⟩ := yieldsIn_of_qOp h0 hq
    refine head_first h0 (Region.noSelect_spec hsel) hs hc hn (by omega) (fun _ _ hL => seqB_ready hL.1) l.length done a inv (Region.free_spec h0 hB.1.2) hr hy (ih (k + 1) _ _ (fun j hj => ?_) (by omega) (inv.set hr (by omega)) hB.2 hK)
    have := hl (j + 1) (by simp; omega)
    rw [Nat.add_assoc, Nat.add_comm 1 j]
    simpa using this
/-- The law: the first n operations quiet, at the class of the worlds after some draws; then the rest, as a plain list, from any of these. -/
theorem wp_region_quiet_tail {id : Nat} {Q : Exit → Act → World → Prop} {a : Act} {w : World} {l : List Oper} (n : Nat) (hm : P.follows .mixedOrders = true) (hB : Region.lexTailB .any l.toArray n = true)
    (h : wpQuiet P l.toArray (fun w' => ∃ q, w' = w.drewN q) (fun a' => ∀ q, wpList P l.toArray Q (l.drop n) a' (w.drewN q)) (l.take n) a) : (Code.region id l.toArray true).wp P Q a w := by
  simp only [Region.lexTailB, Bool.and_eq_true, decide_eq_true_eq] at hB
  obtain ⟨⟨⟨⟨hsel, hn⟩, hs⟩, hc⟩, hlex⟩ := hB
  have hn' : n < l.length := by simpa using hn
  have htl : (l.take n).length = n := by rw [List.length_take]; omega
  have hdl : (l.drop n).length = l.toArray.size - n := by simp
  have inv0 : HeadInv .any l.toArray n (Array.replicate l.toArray.size false) :=
    ⟨by simp, fun j _ _ hl => (by rw [getD_replicate_false] at hl; cases hl), fun t _ ht => getD_in (by simpa using ht) (getD_replicate_false _ _)⟩
  have H := head_lex (g := l.toArray.size - n) hsel hs hc hn (l.take n) 0 _ a (fun j hj => by
    have : j < n := by rwa [htl] at hj
    simp [this]) (by simpa using htl) inv0 (by rw [htl]; exact hlex) h
  refine wp_region_any hm ?_
  have key := any_of_head (Q := Q) (g := l.toArray.size - n) (fun done a' w' hw' hL => by
    obtain ⟨q, rfl⟩ := hw'
    have := wpAny_of_seq (md := .any) (Q' := Q) (l.drop n) n done a' (w.drewN q) (fun j => by simp [List.getElem?_drop]) (by rw [hdl]; exact hL.1) (hL.2 q)
    rwa [hdl] at this) _ _ _ { w with drawn := w.drawn + 1 } ⟨1, rfl⟩ H
  rw [htl, show n + (l.toArray.size - n) = l.toArray.size by omega] at key
  exact key
end
end Go.Proofs.YtclpebgjmgfigaaGreatDoor
namespace Go.Proofs.YtclpebgjmgfigaaGreatDoor
open Go.RowKit

theorem rot_at (x : W) (n : Nat) (c : Int) (hc : c = n) (hn : n ≤ 32) (w : World) :
    Calls Tryz.prog 100 #[.int .u32 (x.toNat : Int), .int .i64 c] w fun e w' => e = .returned (.int .u32 ((rr x n).toNat : Int)) ∧ ∃ q, w' = w.drewN q := by
  subst hc
  exact rot_any x n hn w
theorem str_get (b : ByteArray) (k : Nat) (h : k < b.size) : b.data.toList[k]? = some b[k] := by
  rw [List.getElem?_eq_getElem (by simpa using h)]
  rfl
theorem bw_mod (x : UInt8) : (x.toNat : Int) % 4294967296 = ((bw x).toNat : Int) := by
  rw [← bw_nat]; have := x.toNat_lt; omega
theorem ref_word (b : ByteArray) (i : Nat) (h0 : 4 * i < b.size) (h1 : 4 * i + 1 < b.size) (h2 : 4 * i + 2 < b.size) (h3 : 4 * i + 3 < b.size) :
    bits .or .u32 (bits .or .u32 (bits .or .u32 ((b[4 * i].toNat : Int) % 4294967296 * 16777216 % 4294967296) ((b[4 * i + 1].toNat : Int) % 4294967296 * 65536 % 4294967296)) ((b[4 * i + 2].toNat : Int) % 4294967296 * 256 % 4294967296)) ((b[4 * i + 3].toNat : Int) % 4294967296) = ((wordAt b.data.toList i).toNat : Int) := by
  rw [bw_mod, bw_mod, bw_mod, bw_mod, w_shlk _ 24 16777216 (by decide), w_shlk _ 16 65536 (by decide), w_shlk _ 8 256 (by decide), w_or, w_or, w_or,
    wordAt_of (str_get b _ h0) (str_get b _ h1) (str_get b _ h2) (str_get b _ h3)]
/-- The four blocks of the function. -/
structure RB (A B : Nat) (s : St) (b : List UInt8) (i : Nat) (w wr : World) : Prop where
  box : Blk wr A 110 s.vals.toArray
  res : Blk wr (A + 1) 110 (List.replicate 8 (Value.int .u32 0)).toArray
  ks : Blk wr B 138 (shaK.map wv).toArray
  ws : Blk wr (B + 1) 138 (wrow b i)
  le : A + 1 < B
  rest : Only NoneOf w wr
  new : w.heap.size ≤ A
theorem RB.drewN {A B : Nat} {s : St} {b : List UInt8} {i : Nat} {w wr : World} (h : RB A B s b i w wr) (n : Nat) : RB A B s b i w (wr.drewN n) := ⟨h.box, h.res, h.ks, h.ws, h.le, h.rest.drewN n, h.new⟩
theorem RB.put {A B : Nat} {s : St} {b : List UInt8} {i : Nat} {w wr : World} (h : RB A B s b i w wr) (hi : i < 64) (x : W) (hx : sched b (i + 1) = sched b i ++ [x]) : RB A B s b (i + 1) w (wr.setCell ⟨B + 1, i, none⟩ (wv x)) := by
  have h1 := h.ws.set_ i (wv x)
  rw [wrow_set hi _ hx] at h1
  have := h.le; have := h.new
  exact ⟨h.box.far (by show A ≠ B + 1; omega) _, h.res.far (by show A + 1 ≠ B + 1; omega) _, h.ks.far (by show B ≠ B + 1; omega) _, h1, h.le, h.rest.setCell (.inr (by show _ ≤ B + 1; omega)) _, h.new⟩
theorem rb_start {s : St} {b : List UInt8} {w w1 w2 : World} {zs : Array Value} {ks : List Value} (hk : ks = shaK.map wv) (hz : zs.size = 64) {z8 : Array Value} (h8 : z8 = (List.replicate 8 (Value.int .u32 0)).toArray) (hw1 : w1 = (w.alloc (.cells s.vals.toArray 110)).alloc (.cells z8 110)) (ho : Only NoneOf w1 w2) (hz0 : zs = wrow b 0) :
    RB w.heap.size w2.heap.size s b 0 w (((w2.alloc (.cells zs 138)).setCells w2.heap.size 0 ks).alloc (.cells zs 138)) := by
  subst hk h8
  have hs1 : w1.heap.size = w.heap.size + 2 := by rw [hw1]; simp
  have hle := ho.size
  have h1 : Blk w1 w.heap.size 110 s.vals.toArray := by rw [hw1]; exact (Blk.new w _ _).alloc _
  have h2 : Blk w1 (w.heap.size + 1) 110 (List.replicate 8 (Value.int .u32 0)).toArray := by
    rw [hw1]
    have := Blk.new (w.alloc (.cells s.vals.toArray 110)) 110 (List.replicate 8 (Value.int .u32 0)).toArray
    rwa [World.size_alloc] at this
  have h3 := only_setCells ((Only.refl NoneOf w2).alloc (.cells zs 138)) w2.heap.size 0 (.inr (Nat.le_refl _)) (shaK.map wv)
  have hsz : ((w2.alloc (.cells zs 138)).setCells w2.heap.size 0 (shaK.map wv)).heap.size = w2.heap.size + 1 := by
    rw [setCells_size, World.size_alloc]
  refine ⟨((h1.only ho (fun h => h)).only h3 (fun h => h)).alloc _, ((h2.only ho (fun h => h)).only h3 (fun h => h)).alloc _, (Blk.filled (xs := zs.toList) (by simpa using Blk.new w2 138 zs) _ (by simp [hz]; decide +kernel)).alloc _, ?_, by omega, ?_, Nat.le_refl _⟩
  · have := Blk.new ((w2.alloc (.cells zs 138)).setCells w2.heap.size 0 (shaK.map wv)) 138 zs
    rw [hsz] at this
    rw [hz0] at this ⊢
    exact this
  · exact Only.alloc ((Only.trans (by rw [hw1]; exact ((Only.refl NoneOf w).alloc _).alloc _) ho).trans h3) _
theorem vals_one (t : St) : t.vals.toArray.all (·.oneCell') = true := all_oneCell_toArray (fun v hv => by
  simp only [St.vals, List.mem_cons, List.not_mem_nil, or_false] at hv
  rcases hv with rfl | rfl | rfl | rfl | rfl | rfl | rfl | rfl <;> rfl)
theorem wpList_store8 {P : Program} {w : World} {ops : Array Oper} {rest : List Oper} {o : Oper} {a : Act} {Q : Exit → Act → World → Prop} (hgd : o.guard = none) (ty : TypeId) (x y : Operand) (ho : o.op = .store ty x y)
    (V : Nat) (hx : a.eval x = .pointer (some ⟨V, 0, none⟩)) {x0 x1 x2 x3 x4 x5 x6 x7 : Int} (hy : a.eval y = .agg #[.int .u32 x0, .int .u32 x1, .int .u32 x2, .int .u32 x3, .int .u32 x4, .int .u32 x5, .int .u32 x6, .int .u32 x7])
    {t : TypeId} {cs : Array Value} (hb : Blk w V t cs) (hc : cs.size = 8) (hi : (P.info? ty).map (·.size) = some 8)
    (h : ∀ w', Hid (w' = w.setCells V 0 [.int .u32 x0, .int .u32 x1, .int .u32 x2, .int .u32 x3, .int .u32 x4, .int .u32 x5, .int .u32 x6, .int .u32 x7]) → wpList P ops Q rest (a.put o.dst undef) w') : wpList P ops Q (o :: rest) a w :=
  wpList_store_mid hgd ty x y ho V 0 _ hx hy (hb.there 0 8 (by omega)) hi (by simp [Value.oneCell']) (h _ (rfl : _ = _))
/-- With the block of the eight words that turn. -/
structure RV (A B V : Nat) (s : St) (b : List UInt8) (t : St) (w wr : World) : Prop where
  rb : RB A B s b 64 w wr
  v : Blk wr V 110 t.vals.toArray
  lt : B + 1 < V
theorem RV.drewN {A B V : Nat} {s : St} {b : List UInt8} {t : St} {w wr : World} (h : RV A B V s b t w wr) (n : Nat) : RV A B V s b t w (wr.drewN n) := ⟨h.rb.drewN n, h.v, h.lt⟩
theorem RB.only {A B : Nat} {s : St} {b : List UInt8} {i : Nat} {w wr wx : World} {S : Nat → Prop} (h : RB A B s b i w wr) (ho : Only S wr wx) (hS : ∀ k, S k → B + 1 < k) : RB A B s b i w wx := by
  have := h.le; have := h.new
  exact ⟨h.box.only ho (fun e => by have := hS _ e; omega), h.res.only ho (fun e => by have := hS _ e; omega), h.ks.only ho (fun e => by have := hS _ e; omega), h.ws.only ho (fun e => by have := hS _ e; omega), h.le,
    h.rest.trans' ho (fun i hi e => by have := hS _ e; omega), h.new⟩
theorem rv_start {A B : Nat} {s : St} {b : List UInt8} {w wr : World} {zs : Array Value} {ks : List Value} (hk : ks = s.vals) (hz : zs.size = 8) (h : RB A B s b 64 w wr) : RV A B wr.heap.size s b s w ((wr.alloc (.cells zs 110)).setCells wr.heap.size 0 ks) := by
  subst hk
  have ho := only_setCells ((Only.refl NoneOf wr).alloc (.cells zs 110)) wr.heap.size 0 (.inr (Nat.le_refl _)) s.vals
  exact ⟨h.only ho (fun _ e => e.elim), Blk.filled (xs := zs.toList) (by simpa using Blk.new wr 110 zs) _ (by simp [hz]; rfl), h.ws.lt⟩
theorem RV.put {A B V : Nat} {s : St} {b : List UInt8} {t t' : St} {w wr : World} (h : RV A B V s b t w wr) (ks : List Value) (hk : ks = t'.vals) : RV A B V s b t' w (wr.setCells V 0 ks) := by
  subst hk
  have := h.lt
  exact ⟨h.rb.only (only_setCells (Only.refl (· = V) wr) V 0 (.inl rfl) t'.vals) (fun k e => by rw [e]; exact h.lt), h.v.filled _ rfl, h.lt⟩
theorem cons_eq {a b : Value} {l m : List Value} (h : a = b) (h' : l = m) : a :: l = b :: m := by rw [h, h']
/-- In the last loop. -/
structure RW (A V : Nat) (s t : St) (k : Nat) (w wr : World) : Prop where
  box : Blk wr A 110 (part s t k).toArray
  res : Blk wr (A + 1) 110 (List.replicate 8 (Value.int .u32 0)).toArray
  v : Blk wr V 110 t.vals.toArray
  lt : A + 1 < V
  rest : Only NoneOf w wr
  new : w.heap.size ≤ A
theorem RV.last {A B V : Nat} {s : St} {b : List UInt8} {t : St} {w wr : World} (h : RV A B V s b t w wr) : RW A V s t 0 w wr := ⟨h.rb.box, h.rb.res, h.v, by have := h.rb.le; have := h.lt; omega, h.rb.rest, h.rb.new⟩
theorem RW.put {A V k : Nat} {s t : St} {w wr : World} {x : W} (h : RW A V s t k w wr) (hs : (part s t k).toArray.setIfInBounds k (wv x) = (part s t (k + 1)).toArray) : RW A V s t (k + 1) w (wr.drew.setCell ⟨A, k, none⟩ (.int .u32 (x.toNat : Int))) := by
  have h1 := (Blk.drew h.box).set_ k (wv x)
  rw [hs] at h1
  have := h.lt; have := h.new
  exact ⟨h1, (Blk.drew h.res).far (by show A + 1 ≠ A; omega) _, (Blk.drew h.v).far (by show V ≠ A; omega) _, h.lt, (h.rest.drew).setCell (.inr h.new) _, h.new⟩
set_option maxRecDepth 100000 in
set_option maxHeartbeats 1000000 in
theorem block_any (s : St) (b : ByteArray) (hb : b.size = 64) (w : World) :
    Calls Tryz.prog 64 #[.agg s.vals.toArray, .string b] w fun e w' => e = .returned (.agg (comp s b.data.toList).vals.toArray) ∧ Only NoneOf w w' := by
  have HB := Lib.hid hb
  clear hb
  go_enter Tryz.func64, Tryz.ntmps64
  go_wp2_with fail
  refine calls_gen (fun X => X = (w.alloc (.cells s.vals.toArray 110)).alloc (.cells (List.replicate 8 (Value.int .u32 0)).toArray 110)) rfl ?_
  intro w1 hw1
  have HW1 := Lib.hid hw1
  clear hw1
  refine (rounds_any _).mono ?_
  rintro e w2 ⟨rfl, ho2⟩
  have HO2 := Lib.hid ho2
  clear ho2
  have hk : (shaK.map wv).length = 64 := by decide +kernel
  have hzk : (shaK.map wv).toArray.size = 64 := hk
  have hik : (Tryz.prog.info? 138).map (·.size) = some (shaK.map wv).toArray.size := by rw [hzk]; kernel_rfl
  have hnk : (shaK.map wv).toArray.all (·.oneCell') = true := all_oneCell_toArray (fun v hv => by obtain ⟨x, _, rfl⟩ := List.mem_map.1 hv; rfl)
  have HK := Lib.hid hk
  have HIK := Lib.hid hik
  have HNK := Lib.hid hnk
  clear hk hzk hik hnk
  have tok1 : True := trivial
  go_wp2_with (have _t := tok1; refine wpList_store_mid rfl 138 (.tmp 5) (.tmp 17) rfl w2.heap.size 0 (shaK.map wv).toArray rfl rfl (there_new w2 _ _ _ (by simp [HK.out])) HIK.out HNK.out ?_; clear tok1 _t)
  refine wp_gen (RB w.heap.size w2.heap.size s b.data.toList 0 w) (rb_start (by simp) rfl rfl HW1.out HO2.out rfl) ?_
  simp only [setCells_size, World.size_alloc]
  obtain ⟨B, hB⟩ : ∃ B, B = w2.heap.size := ⟨_, rfl⟩
  rw [← hB]
  intro W3 h3
  have H3 := Lib.hid h3
  clear h3 HW1 HO2 HK HIK HNK hB
  go_loopw [7] (fun v wr => ∃ i : Nat, v = .int .i64 i ∧ i ≤ 64 ∧ RB w.heap.size B s b.data.toList i w wr) (fun v _ => 64 - (intOf v).toNat)
  case atStart => exact ⟨0, rfl, by omega, H3.out⟩
  case round =>
    clear H3
    obtain ⟨i, rfl, hi, h4⟩ := hrel
    by_cases h64 : i < 64
    · by_cases h16 : i < 16
      · have hl : b.data.toList.length = 64 := by simpa using HB.out
        have cz := (h4.ws.cell i).trans (wrow_zero (Nat.le_refl i) h64)
        have fz := h4.ws.frozen i
        have H4 := Lib.hid h4
        have hsz : b.size = 64 := HB.out
        have i0 : IntKind.i64.wrap (4 * (i : Int)) = 4 * (i : Int) := IntWalk.i64_in _ (by omega)
        have i1 : IntKind.i64.wrap (4 * (i : Int) + 1) = 4 * (i : Int) + 1 := IntWalk.i64_in _ (by omega)
        have i2 : IntKind.i64.wrap (4 * (i : Int) + 2) = 4 * (i : Int) + 2 := IntWalk.i64_in _ (by omega)
        have i3 : IntKind.i64.wrap (4 * (i : Int) + 3) = 4 * (i : Int) + 3 := IntWalk.i64_in _ (by omega)
        have n0 : (4 * (i : Int)).toNat = 4 * i := by omega
        have n1 : (4 * (i : Int) + 1).toNat = 4 * i + 1 := by omega
        have n2 : (4 * (i : Int) + 2).toNat = 4 * i + 2 := by omega
        have n3 : (4 * (i : Int) + 3).toNat = 4 * i + 3 := by omega
        have p0 : 0 ≤ 4 * (i : Int) := by omega
        have p1 : 0 ≤ 4 * (i : Int) + 1 := by omega
        have p2 : 0 ≤ 4 * (i : Int) + 2 := by omega
        have p3 : 0 ≤ 4 * (i : Int) + 3 := by omega
        have q0 : 4 * i < b.size := by omega
        have q1 : 4 * i + 1 < b.size := by omega
        have q2 : 4 * i + 2 < b.size := by omega
        have q3 : 4 * i + 3 < b.size := by omega
        have r0 : 4 * (i : Int) < (b.size : Int) := by omega
        have r1 : 4 * (i : Int) + 1 < (b.size : Int) := by omega
        have r2 : 4 * (i : Int) + 2 < (b.size : Int) := by omega
        have r3 : 4 * (i : Int) + 3 < (b.size : Int) := by omega
        clear h4 hl hsz
        go_wp2_with fail
        go_region
        go_wp2_with fail
        go_roundw
        case rel =>
          refine ⟨i + 1, by go_num, by omega, ?_⟩
          rw [ref_word b i q0 q1 q2 q3]
          exact (H4.out.drewN 1).put h64 _ (sched_low h16)
        case measure => simp [intOf]; omega
      · have hk : 16 ≤ i := by omega
        clear h16
        obtain ⟨x, ex⟩ : ∃ x, x = (sched b.data.toList i).getD (i - 15) 0 := ⟨_, rfl⟩
        obtain ⟨y, ey⟩ : ∃ y, y = (sched b.data.toList i).getD (i - 2) 0 := ⟨_, rfl⟩
        obtain ⟨u, eu⟩ : ∃ u, u = (sched b.data.toList i).getD (i - 16) 0 := ⟨_, rfl⟩
        obtain ⟨v, ev⟩ : ∃ v, v = (sched b.data.toList i).getD (i - 7) 0 := ⟨_, rfl⟩
        have hs : sched b.data.toList (i + 1) = sched b.data.toList i ++ [u + ssig x 7 18 3 + v + ssig y 17 19 10] := by
          rw [ex, ey, eu, ev]; exact sched_high hk
        have cx : wr.cell? ⟨B + 1, i - 15, none⟩ = some (.int .u32 (x.toNat : Int)) := by rw [ex]; exact (h4.ws.cell _).trans (wrow_get (by omega))
        have cy : wr.cell? ⟨B + 1, i - 2, none⟩ = some (.int .u32 (y.toNat : Int)) := by rw [ey]; exact (h4.ws.cell _).trans (wrow_get (by omega))
        have cu : wr.cell? ⟨B + 1, i - 16, none⟩ = some (.int .u32 (u.toNat : Int)) := by rw [eu]; exact (h4.ws.cell _).trans (wrow_get (by omega))
        have cv : wr.cell? ⟨B + 1, i - 7, none⟩ = some (.int .u32 (v.toNat : Int)) := by rw [ev]; exact (h4.ws.cell _).trans (wrow_get (by omega))
        have cz := (h4.ws.cell i).trans (wrow_zero (Nat.le_refl i) h64)
        have fz := h4.ws.frozen i
        have H4 := Lib.hid h4
        have HS := Lib.hid hs
        clear h4 hs ex ey eu ev
        have i15 : IntKind.i64.wrap ((i : Int) - 15) = (i : Int) - 15 := IntWalk.i64_in _ (by omega)
        have i2 : IntKind.i64.wrap ((i : Int) - 2) = (i : Int) - 2 := IntWalk.i64_in _ (by omega)
        have i16 : IntKind.i64.wrap ((i : Int) - 16) = (i : Int) - 16 := IntWalk.i64_in _ (by omega)
        have i7 : IntKind.i64.wrap ((i : Int) - 7) = (i : Int) - 7 := IntWalk.i64_in _ (by omega)
        have n15 : ((i : Int) - 15).toNat = i - 15 := by omega
        have n2 : ((i : Int) - 2).toNat = i - 2 := by omega
        have n16 : ((i : Int) - 16).toNat = i - 16 := by omega
        have n7 : ((i : Int) - 7).toNat = i - 7 := by omega
        have p15 : 0 ≤ (i : Int) - 15 := by omega
        have p2 : 0 ≤ (i : Int) - 2 := by omega
        have p16 : 0 ≤ (i : Int) - 16 := by omega
        have p7 : 0 ≤ (i : Int) - 7 := by omega
        have q15 : (i : Int) - 15 < 64 := by omega
        have q2 : (i : Int) - 2 < 64 := by omega
        have q16 : (i : Int) - 16 < 64 := by omega
        have q7 : (i : Int) - 7 < 64 := by omega
        have R7 := Lib.hid (rot_at x 7 7 rfl (by omega))
        have R18 := Lib.hid (rot_at x 18 18 rfl (by omega))
        have R17 := Lib.hid (rot_at y 17 17 rfl (by omega))
        have R19 := Lib.hid (rot_at y 19 19 rfl (by omega))
        go_wp2_with fail
        refine wp_region_quiet_tail 29 (by kernel_rfl) (by kernel_rfl) ?_
        simp only [List.take_succ_cons, List.take_zero, List.drop_succ_cons, List.drop_zero]
        repeat (go_big_quiet_step (first
          | ((with_reducible refine Calls.quiet_of (R7.out _)))
          | ((with_reducible refine Calls.quiet_of (R18.out _)))
          | ((with_reducible refine Calls.quiet_of (R17.out _)))
          | ((with_reducible refine Calls.quiet_of (R19.out _)))))
        refine wpQuiet_nil ?_
        intro nq
        go_wp2_with fail
        go_roundw
        case rel =>
          refine ⟨i + 1, by go_num, by omega, ?_⟩
          rw [w_shrk x 3 8 (by decide), w_shrk y 10 1024 (by decide), w_xor, w_xor, w_xor, w_xor, w_sum4]
          exact (H4.out.drewN nq).put h64 _ HS.out
        case measure => simp [intOf]; omega
    · obtain rfl : i = 64 := by omega
      have H4 := Lib.hid h4
      clear h4
      have i53 : (Tryz.prog.info? 110).map (·.size) = some 8 := by kernel_rfl
      have I53 := Lib.hid i53
      clear i53
      have tok1 : True := trivial
      have tok2 : True := trivial
      go_wp2_with (first
        | (have _t := tok1; refine wpList_load_row rfl 110 (.tmp 2) rfl w.heap.size rfl 110 s.vals.toArray (0, 0) _ H4.out.box Tryz.underlying110 rfl I53.out ?_; clear tok1 _t)
        | (have _t := tok2; refine wpList_store_mid rfl 110 (.tmp 10) (.tmp 92) rfl wr.heap.size 0 s.vals.toArray rfl rfl (there_new wr 110 _ 8 (Nat.le_refl _)) I53.out (vals_one s) ?_; clear tok2 _t))
      refine wp_gen (RV w.heap.size B wr.heap.size s b.data.toList s w) ?hR ?_
      case hR =>
        refine rv_start ?_ ?_ H4.out
        · first | rfl | simp
        · rfl
      obtain ⟨V, hV⟩ : ∃ V, V = wr.heap.size := ⟨_, rfl⟩
      rw [← hV]
      intro W4 h5
      have H5 := Lib.hid h5
      clear h5 H4 hV
      go_loopw [11] (fun v wr => ∃ (j : Nat) (t : St), t = rnds s (sched b.data.toList 64) j ∧ v = .int .i64 j ∧ j ≤ 64 ∧ RV w.heap.size B V s b.data.toList t w wr) (fun v _ => 64 - (intOf v).toNat)
      case atStart => exact ⟨0, s, rfl, rfl, by omega, H5.out⟩
      case round =>
        clear H5
        obtain ⟨j, t, ht, rfl, hj, h6⟩ := hrel
        by_cases h64 : j < 64
        · obtain ⟨kk, ek⟩ : ∃ kk, kk = shaK.getD j 0 := ⟨_, rfl⟩
          obtain ⟨ww, ew⟩ : ∃ ww, ww = (sched b.data.toList 64).getD j 0 := ⟨_, rfl⟩
          have ht' : rnd t kk ww = rnds s (sched b.data.toList 64) (j + 1) := by rw [ht, ek, ew]; rfl
          have cw : wr.cell? ⟨B + 1, j, none⟩ = some (.int .u32 (ww.toNat : Int)) := by rw [ew]; exact (h6.rb.ws.cell _).trans (wrow_get h64)
          have ck : wr.cell? ⟨B, j, none⟩ = some (.int .u32 (kk.toNat : Int)) := by rw [ek]; exact (h6.rb.ks.cell _).trans (krow_get h64)
          have e0 : wr.cell? ⟨V, 0, none⟩ = some (.int .u32 (t.a.toNat : Int)) := (h6.v.cell 0).trans rfl
          have e1 : wr.cell? ⟨V, 1, none⟩ = some (.int .u32 (t.b.toNat : Int)) := (h6.v.cell 1).trans rfl
          have e2 : wr.cell? ⟨V, 2, none⟩ = some (.int .u32 (t.c.toNat : Int)) := (h6.v.cell 2).trans rfl
          have e3 : wr.cell? ⟨V, 3, none⟩ = some (.int .u32 (t.d.toNat : Int)) := (h6.v.cell 3).trans rfl
          have e4 : wr.cell? ⟨V, 4, none⟩ = some (.int .u32 (t.e.toNat : Int)) := (h6.v.cell 4).trans rfl
          have e5 : wr.cell? ⟨V, 5, none⟩ = some (.int .u32 (t.f.toNat : Int)) := (h6.v.cell 5).trans rfl
          have e6 : wr.cell? ⟨V, 6, none⟩ = some (.int .u32 (t.g.toNat : Int)) := (h6.v.cell 6).trans rfl
          have e7 : wr.cell? ⟨V, 7, none⟩ = some (.int .u32 (t.h.toNat : Int)) := (h6.v.cell 7).trans rfl
          have hth : ∀ q, Blk (wr.drewN q) V 110 t.vals.toArray := fun q => h6.v.drewN q
          have HTH := Lib.hid hth
          have HT := Lib.hid ht'
          have H6 := Lib.hid h6
          clear ht ek ew ht' h6 hth
          have R6 := Lib.hid (rot_at t.e 6 6 rfl (by omega))
          have R11 := Lib.hid (rot_at t.e 11 11 rfl (by omega))
          have R25 := Lib.hid (rot_at t.e 25 25 rfl (by omega))
          have R2 := Lib.hid (rot_at t.a 2 2 rfl (by omega))
          have R13 := Lib.hid (rot_at t.a 13 13 rfl (by omega))
          have R22 := Lib.hid (rot_at t.a 22 22 rfl (by omega))
          have tok1 : True := trivial
          go_wp2_with fail
          go_quiet (first
            | ((with_reducible refine Calls.quiet_of (R6.out _)))
            | ((with_reducible refine Calls.quiet_of (R11.out _)))
            | ((with_reducible refine Calls.quiet_of (R25.out _))))
          go_wp2_with fail
          go_quiet (first
            | ((with_reducible refine quiet_again R2.out))
            | ((with_reducible refine quiet_again R13.out))
            | ((with_reducible refine quiet_again R22.out)))
          go_wp2_with (have _t := tok1; refine wpList_store8 rfl 110 (.tmp 10) (.tmp 174) rfl V rfl rfl (HTH.out _) rfl I53.out ?_; clear tok1 _t; intro w9 hw9)
          go_roundw
          case rel =>
            refine ⟨j + 1, rnd t kk ww, HT.out, by go_num, by omega, ?_⟩
            rw [hw9.out]
            refine (H6.out.drewN _).put _ ?_
            refine cons_eq ?_ (cons_eq rfl (cons_eq rfl (cons_eq rfl (cons_eq ?_ rfl))))
            · show Value.int IntKind.u32 _ = Value.int IntKind.u32 ((t.h + (rr t.e 6 ^^^ rr t.e 11 ^^^ rr t.e 25) + ((t.e &&& t.f) ^^^ (~~~t.e &&& t.g)) + kk + ww + ((rr t.a 2 ^^^ rr t.a 13 ^^^ rr t.a 22) + ((t.a &&& t.b) ^^^ (t.a &&& t.c) ^^^ (t.b &&& t.c)))).toNat : Int)
              simp only [w_not', w_and, w_xor]
              congr 1
              simp only [BitVec.toNat_add]
              omega
            · show Value.int IntKind.u32 _ = Value.int IntKind.u32 ((t.d + (t.h + (rr t.e 6 ^^^ rr t.e 11 ^^^ rr t.e 25) + ((t.e &&& t.f) ^^^ (~~~t.e &&& t.g)) + kk + ww)).toNat : Int)
              simp only [w_not', w_and, w_xor]
              congr 1
              simp only [BitVec.toNat_add]
              omega
          case measure => simp [intOf]; omega
        · obtain rfl : j = 64 := by omega
          have hcomp : comp s b.data.toList = s.add t := by rw [ht]; rfl
          have HC := Lib.hid hcomp
          have H6 := Lib.hid h6
          clear ht hcomp h6
          go_wp2_with fail
          go_loopw [16] (fun v wr => ∃ k : Nat, v = .int .i64 k ∧ k ≤ 8 ∧ RW w.heap.size V s t k w wr) (fun v _ => 8 - (intOf v).toNat)
          case atStart => exact ⟨0, rfl, by omega, H6.out.last⟩
          case round =>
            clear H6
            obtain ⟨k, rfl, hk, h7⟩ := hrel
            by_cases h8 : k < 8
            · obtain ⟨x, ex⟩ : ∃ x, x = sw t k := ⟨_, rfl⟩
              obtain ⟨y, ey⟩ : ∃ y, y = sw s k := ⟨_, rfl⟩
              have cx : wr.cell? ⟨V, k, none⟩ = some (.int .u32 (x.toNat : Int)) := by rw [ex]; exact (h7.v.cell k).trans (vals_get t h8)
              have cy : wr.cell? ⟨w.heap.size, k, none⟩ = some (.int .u32 (y.toNat : Int)) := by rw [ey]; exact (h7.box.cell k).trans (part_get s t h8)
              have fz := h7.box.frozen k
              have hset := part_set s t h8
              rw [← ex, ← ey] at hset
              have HSET := Lib.hid hset
              have H7 := Lib.hid h7
              clear hset h7 ex ey
              go_wp2_with fail
              go_region
              go_wp2_with fail
              go_roundw
              case rel =>
                refine ⟨k + 1, by go_num, by omega, ?_⟩
                rw [w_add]
                exact H7.out.put HSET.out
              case measure => simp [intOf]; omega
            · obtain rfl : k = 8 := by omega
              have HB7 := Lib.hid h7.box
              have HR7 := Lib.hid h7
              have hz8 : (part s t 8).toArray.size = 8 := rfl
              have hone : (part s t 8).toArray.all (·.oneCell') = true := vals_one (s.add t)
              have HONE := Lib.hid hone
              clear h7 hz8 hone
              have tok1 : True := trivial
              have tok2 : True := trivial
              go_wp2_with (first
                | (have _t := tok1; refine wpList_load_row rfl 110 (.tmp 2) rfl w.heap.size rfl 110 (part s t 8).toArray (0, 0) _ HB7.out Tryz.underlying110 rfl I53.out ?_; clear tok1 _t)
                | (have _t := tok2; refine wpList_store_mid rfl 110 (.tmp 4) (.tmp 188) rfl (w.heap.size + 1) 0 (part s t 8).toArray rfl rfl (HR7.out.res.there 0 8 (Nat.le_refl _)) I53.out HONE.out ?_; clear tok2 _t))
              have hbf := HR7.out.res.filled (part s t 8).toArray.toList rfl
              refine bodyPost_ret (results_blk rfl rfl hbf Tryz.underlying110 rfl I53.out) rfl ⟨?_, only_setCells HR7.out.rest _ _ (.inr (by omega)) _⟩
              rw [HC.out]
              rfl
end Go.Proofs.YtclpebgjmgfigaaGreatDoor
namespace Go.Proofs.YtclpebgjmgfigaaGreatDoor
open Go.RowKit

theorem quiet_load_row {P : Program} {w : World} {o : Oper} {a : Act} {K : Act → Prop} (ty : TypeId) (x : Operand) (ho : o.op = .load ty x) (g : Nat) (hx : a.eval x = .pointer (some ⟨g, 0, none⟩)) {t : TypeId} {cs : Array Value} {d : TypeDesc}
    (hb : Blk w g t cs) (hu : P.underlying ty = some d) (hd : d.isRow = true) (hi : (P.info? ty).map (·.size) = some cs.size) (h : K (a.put o.dst (.agg cs))) : o.quiet P a (fun w' => ∃ q, w' = w.drewN q) K := by
  refine ⟨.agg cs, fun w' ⟨q, e⟩ => ?_, h⟩
  subst e
  have hr : (w.drewN q).rangeAt g 0 cs.toList := fun j v hv => by rw [Nat.zero_add, (hb.drewN q).cell]; simpa using hv
  have hl := run_loadVar_mid (P := P) (w.drewN q) g 0 ty cs.toList d hr hu hd (by simpa using hi)
  unfold Oper.quietAt execOp
  simp only [ho, hx, Instr.loadAt, Instr.sureAddr, Sem.run_bind, Sem.run_pure, Result.andThen_ok, hl]
  exact ⟨rfl, by simp⟩
theorem be4_get (L : List W) (j r : Nat) (hr : r < 4) (x : W) (hx : L[j]? = some x) : (L.flatMap be4)[4 * j + r]? = (be4 x)[r]? := by
  induction L generalizing j with
  | nil => simp at hx
  | cons y l ih =>
    rw [List.flatMap_cons]
    cases j with
    | zero =>
      simp at hx; subst hx
      rw [List.getElem?_append_left (by rw [be4_len]; omega)]
      simp
    | succ j =>
      rw [List.getElem?_append_right (by rw [be4_len]; omega), be4_len, show 4 * (j + 1) + r - 4 = 4 * j + r by omega]
      exact ih j (by simpa using hx)
theorem be4_at (x : W) {r : Nat} (hr : r < 4) : (be4 x)[r]? = some (UInt8.ofNat (x.toNat / 2 ^ (8 * (3 - r)))) := by
  have : r = 0 ∨ r = 1 ∨ r = 2 ∨ r = 3 := by omega
  rcases this with rfl | rfl | rfl | rfl <;> rfl
theorem words_get (t : St) {j : Nat} (h : j < 8) : (words t)[j]? = some (sw t j) := by
  rcases eight h with rfl | rfl | rfl | rfl | rfl | rfl | rfl | rfl <;> rfl
theorem hashL_at (t : St) {i : Nat} (h : i < 32) : (hashL t)[i]? = some (UInt8.ofNat ((sw t (i / 4)).toNat / 2 ^ (8 * (3 - i % 4)))) := by
  have h1 := be4_get (words t) (i / 4) (i % 4) (by omega) (sw t (i / 4)) (words_get t (by omega))
  rw [show 4 * (i / 4) + i % 4 = i by omega, be4_at _ (by omega)] at h1
  exact h1
theorem hashL_len (t : St) : (hashL t).length = 32 := by rw [hashL, be4_flat]; rfl
def outB (t : St) (i : Nat) : List Value := ((hashL t).take i).map bv ++ List.replicate (32 - i) (.int .u8 0)
theorem outB_set (t : St) {i : Nat} (h : i < 32) : (outB t i).toArray.setIfInBounds i (bv (UInt8.ofNat ((sw t (i / 4)).toNat / 2 ^ (8 * (3 - i % 4))))) = (outB t (i + 1)).toArray := by
  have hl : (((hashL t).take i).map bv).length = i := by simp [hashL_len]; omega
  have hg := hashL_at t h
  have ht : (hashL t).take (i + 1) = (hashL t).take i ++ [UInt8.ofNat ((sw t (i / 4)).toNat / 2 ^ (8 * (3 - i % 4)))] := by
    rw [List.take_add_one, hg]; rfl
  rw [outB, outB, ht, List.setIfInBounds_toArray, List.set_append_right _ _ (by omega), hl, Nat.sub_self, show 32 - i = (32 - (i + 1)) + 1 by omega, List.replicate_succ, List.set_cons_zero, List.map_append, List.append_assoc]
  rfl
theorem outB_size (t : St) {i : Nat} (h : i ≤ 32) : (outB t i).toArray.size = 32 := by simp [outB, hashL_len]; omega
theorem outB_zero (t : St) {i : Nat} (h : i < 32) : (outB t i).toArray[i]? = some (.int .u8 0) := by
  have hl : (((hashL t).take i).map bv).length = i := by simp [hashL_len]; omega
  rw [outB, List.getElem?_toArray, List.getElem?_append_right (by omega), hl, List.getElem?_replicate, if_pos (by omega)]
theorem outB_all (t : St) : outB t 32 = (hashL t).map bv := by
  rw [outB, List.take_of_length_le (by rw [hashL_len]; omega)]; simp
theorem cut_piece (t : ByteArray) (i : Nat) (h : 64 * i + 64 ≤ t.size) : (t.extract (64 * i) (64 * i + 64)).size = 64 ∧ (t.extract (64 * i) (64 * i + 64)).data.toList = pieceOf t.data.toList i := by
  constructor
  · rw [ByteArray.size_extract]; omega
  · rw [ByteArray.data_extract, Array.toList_extract]
    simp [pieceOf]
structure RS (A S : Nat) (t : St) (w wr : World) : Prop where
  res : Blk wr A 25 (List.replicate 32 (Value.int .u8 0)).toArray
  st : Blk wr S 110 t.vals.toArray
  lt : A < S
  rest : Only NoneOf w wr
  new : w.heap.size ≤ A
theorem RS.only {A S : Nat} {t : St} {w wr wx : World} (h : RS A S t w wr) (ho : Only NoneOf wr wx) : RS A S t w wx := ⟨h.res.only ho (fun h => h), h.st.only ho (fun h => h), h.lt, h.rest.trans ho, h.new⟩
theorem RS.put {A S : Nat} {t t' : St} {w wr : World} (h : RS A S t w wr) (ks : List Value) (hk : ks = t'.vals) : RS A S t' w (wr.setCells S 0 ks) := by
  subst hk
  have := h.lt; have := h.new
  exact ⟨h.res.farCells (by omega) _ 0, h.st.filled _ rfl, h.lt, only_setCells h.rest _ _ (.inr (by omega)) _, h.new⟩
theorem rs_start {w : World} {z8 z32 : Array Value} {ks : List Value} (hk : ks = st0.vals) (h8 : z8.size = 8) (h32 : z32 = (List.replicate 32 (Value.int .u8 0)).toArray) :
    RS w.heap.size (w.heap.size + 1) st0 w (((w.alloc (.cells z32 25)).alloc (.cells z8 110)).setCells (w.heap.size + 1) 0 ks) := by
  subst hk h32
  have h1 := Blk.new (w.alloc (.cells (List.replicate 32 (Value.int .u8 0)).toArray 25)) 110 z8
  rw [World.size_alloc] at h1
  exact ⟨((Blk.new w _ _).alloc _).farCells (by omega) _ 0, Blk.filled (xs := z8.toList) (by simpa using h1) _ (by simp [h8]; rfl), by omega, only_setCells (((Only.refl NoneOf w).alloc _).alloc _) _ _ (.inr (by omega)) _, Nat.le_refl _⟩
/-- With the block of the bytes that come out. -/
structure RO (A S O : Nat) (t : St) (i : Nat) (w wr : World) : Prop where
  out : Blk wr O 25 (outB t i).toArray
  rs : RS A S t w wr
  lt : S < O
theorem RO.put {A S O : Nat} {t : St} {i : Nat} {w wr : World} {v v' : Value} (h : RO A S O t i w wr) (hs : (outB t i).toArray.setIfInBounds i v = (outB t (i + 1)).toArray) (hv : v' = v) : RO A S O t (i + 1) w (wr.setCell ⟨O, i, none⟩ v') := by
  subst hv
  have h1 := h.out.set_ i v'
  rw [hs] at h1
  have := h.lt; have := h.rs.lt; have := h.rs.new
  exact ⟨h1, ⟨h.rs.res.far (by show A ≠ O; omega) _, h.rs.st.far (by show S ≠ O; omega) _, h.rs.lt, h.rs.rest.setCell (.inr (by show _ ≤ O; omega)) _, h.rs.new⟩, h.lt⟩
set_option maxRecDepth 100000 in
set_option maxHeartbeats 1000000 in
theorem rsum_any (s : ByteArray) (w : World) (hs : s.size ≤ 35184372088832) :
    Calls Tryz.prog 38 #[.string s] w fun e w' => e = .returned (.agg ((shaL s.data.toList).map bv).toArray) ∧ Only NoneOf w w' := by
  have i53 : (Tryz.prog.info? 110).map (·.size) = some 8 := by kernel_rfl
  have I53 := Lib.hid i53
  clear i53
  go_enter Tryz.func38, Tryz.ntmps38
  have tok1 : True := trivial
  go_wp2_with (have _t := tok1; refine wpList_store_mid rfl 110 (.tmp 3) (.tmp 8) rfl (w.heap.size + 1) 0 st0.vals.toArray rfl rfl (by rw [← World.size_alloc w (.cells (Array.replicate 32 (.int .u8 0)) 25)]; exact there_new _ 110 _ 8 (Nat.le_refl _)) I53.out (vals_one st0) ?_; clear tok1 _t)
  refine calls_gen (RS w.heap.size (w.heap.size + 1) st0 w) ?hR ?_
  case hR =>
    refine rs_start ?_ ?_ ?_
    · first | rfl | simp
    · rfl
    · rfl
  intro W1 h1
  have H1 := Lib.hid h1
  clear h1
  refine (padded_any s W1 hs).mono ?_
  rintro e w2 ⟨⟨t, rfl, ht⟩, ho2⟩
  have hlen := padded_len s.data.toList
  rw [← ht] at hlen
  obtain ⟨m, hm⟩ : ∃ m, t.size = 64 * m := ⟨t.size / 64, by simp at hlen; omega⟩
  have H2 := Lib.hid (H1.out.only ho2)
  have HT := Lib.hid ht
  have HM := Lib.hid hm
  have bt : t.size ≤ 35184372089000 := by
    have := congrArg List.length ht
    simp [padded, be8, padN] at this
    omega
  clear ht hm hlen ho2 H1
  go_wp2_with fail
  go_loopw [5] (fun v wr => ∃ j : Nat, v = .int .i64 ((64 * j : Nat) : Int) ∧ j ≤ m ∧ RS w.heap.size (w.heap.size + 1) (comps st0 t.data.toList j) w wr) (fun v _ => t.size - (intOf v).toNat)
  case atStart => exact ⟨0, rfl, by omega, H2.out⟩
  case round =>
    clear H2
    obtain ⟨j, rfl, hj, h3⟩ := hrel
    have hmt := HM.out
    by_cases hlt : j < m
    · have hcp := cut_piece t j (by omega)
      have hblk := block_any (comps st0 t.data.toList j) (t.extract (64 * j) (64 * j + 64)) hcp.1
      rw [hcp.2] at hblk
      have HBLK := Lib.hid hblk
      have H3 := Lib.hid h3
      have l1 : ((64 * j : Nat) : Int) < (t.size : Int) := by omega
      have l2 : 64 * (j : Int) < (t.size : Int) := by omega
      have l3 : 0 ≤ 64 * (j : Int) := by omega
      have l4 : (64 * (j : Int)).toNat = 64 * j := by omega
      have l5 : IntKind.i64.wrap (64 * (j : Int) + 64) = 64 * (j : Int) + 64 := IntWalk.i64_in _ (by omega)
      have l6 : (64 * (j : Int) + 64).toNat = 64 * j + 64 := by omega
      have l7 : 64 * (j : Int) + 64 ≤ (t.size : Int) := by omega
      have l8 : 0 ≤ 64 * (j : Int) + 64 := by omega
      have l9 : 64 * (j : Int) ≤ 64 * (j : Int) + 64 := by omega
      have e1 : ((64 * j : Nat) : Int) = 64 * (j : Int) := by omega
      have bts : t.size = 64 * m := hmt
      have HBTS := Lib.hid bts
      clear hcp hblk h3 hmt bts
      go_wp2_with fail
      refine wp_region_quiet_tail 6 (by kernel_rfl) (by kernel_rfl) ?_
      simp only [List.take_succ_cons, List.take_zero, List.drop_succ_cons, List.drop_zero]
      refine wpQuiet_step (fun K hK => ?_)
      rw [if_pos (by kernel_rfl)]
      refine quiet_load_row 110 (.tmp 3) rfl (w.heap.size + 1) rfl H3.out.st Tryz.underlying110 rfl I53.out ?_
      go_simp
      refine hK _ ?_
      clear hK K
      repeat (go_big_quiet_step (fail))
      refine wpQuiet_nil ?_
      intro nq
      go_wp2_with fail
      refine (HBLK.out _).mono ?_
      rintro e w4 ⟨rfl, ho4⟩
      have h4 := (H3.out.only ((Only.refl NoneOf wr).drewN nq)).only ho4
      have H4 := Lib.hid h4
      clear h4 ho4
      obtain ⟨t', et⟩ : ∃ t', t' = comp (comps st0 t.data.toList j) (pieceOf t.data.toList j) := ⟨_, rfl⟩
      rw [← et]
      have ET := Lib.hid et
      clear et
      have hv1 := vals_one t'
      have HV1 := Lib.hid hv1
      clear hv1
      have tok1 : True := trivial
      go_wp2_with (have _t := tok1; refine wpList_store_mid rfl 110 (.tmp 3) (.tmp 23) rfl (w.heap.size + 1) 0 t'.vals.toArray rfl rfl (H4.out.st.there 0 8 (Nat.le_refl _)) I53.out HV1.out ?_; clear tok1 _t)
      go_roundw
      case rel =>
        refine ⟨j + 1, by go_num, by omega, ?_⟩
        refine H4.out.put _ ?_
        rw [ET.out]
        first | rfl | simp [comps, pieceOf]
      case measure => have := HBTS.out; simp [intOf]; omega
    · obtain rfl : j = m := by omega
      obtain ⟨u, eu⟩ : ∃ u, u = comps st0 t.data.toList j := ⟨_, rfl⟩
      rw [← eu] at h3
      have EU := Lib.hid eu
      have H3 := Lib.hid h3
      have e1 : ((64 * j : Nat) : Int) = 64 * (j : Int) := by omega
      have l2 : ¬ 64 * (j : Int) < (t.size : Int) := by omega
      have HMT := Lib.hid hmt
      clear eu h3 hmt
      go_wp2_with fail
      obtain ⟨O, hO⟩ : ∃ O, O = wr.heap.size := ⟨_, rfl⟩
      have hO2 := H3.out.st.lt
      have hro : RO w.heap.size (w.heap.size + 1) O u 0 w (wr.alloc (.cells (Array.replicate 32 (.int .u8 0)) 25)) := ⟨hO ▸ Blk.new wr _ _, (H3.out.only ((Only.refl NoneOf wr).alloc _)), by omega⟩
      have HRO := Lib.hid hro
      rw [← hO]
      clear hO hro hO2
      go_loopw [7] (fun v wr => ∃ i : Nat, v = .int .i64 i ∧ i ≤ 32 ∧ RO w.heap.size (w.heap.size + 1) O u i w wr) (fun v _ => 32 - (intOf v).toNat)
      case atStart => exact ⟨0, rfl, by omega, HRO.out⟩
      case round =>
        clear HRO
        obtain ⟨i, rfl, hi, h5⟩ := hrel
        by_cases h32 : i < 32
        · obtain ⟨x, ex⟩ : ∃ x, x = sw u (i / 4) := ⟨_, rfl⟩
          have hset := outB_set u h32
          rw [← ex] at hset
          have cs : wr.cell? ⟨w.heap.size + 1, i / 4, none⟩ = some (.int .u32 (x.toNat : Int)) := by rw [ex]; exact (h5.rs.st.cell _).trans (vals_get u (by omega))
          have cz := (h5.out.cell i).trans (outB_zero u h32)
          have fz := h5.out.frozen i
          have d0 : 0 ≤ (i : Int) / 4 := by omega
          have d1 : (i : Int) / 4 < 8 := by omega
          have d2 : ((i : Int) / 4).toNat = i / 4 := by omega
          have HSET := Lib.hid hset
          have H5 := Lib.hid h5
          have hr : i % 4 = 0 ∨ i % 4 = 1 ∨ i % 4 = 2 ∨ i % 4 = 3 := by omega
          have EX := Lib.hid ex
          clear hset h5 ex
          rcases hr with hr | hr | hr | hr
          all_goals
            have hri : (i : Int) % 4 = ((i % 4 : Nat) : Int) := by omega
            have HR := Lib.hid hr
            rw [hr] at hri
            clear hr
            go_wp2_with fail
            go_roundw
            case rel =>
              refine ⟨i + 1, by go_num, by omega, ?_⟩
              have hs := HSET.out
              rw [HR.out] at hs
              refine H5.out.put hs ?_
              have := x.isLt; simp [bv]; try omega
            case measure => simp [intOf]; omega
        · obtain rfl : i = 32 := by omega
          have H5 := Lib.hid h5
          have hz := outB_size u (Nat.le_refl 32)
          have hi41 : (Tryz.prog.info? 25).map (·.size) = some (outB u 32).toArray.size := by rw [hz]; kernel_rfl
          have hone : (outB u 32).toArray.all (·.oneCell') = true := by rw [outB_all]; exact all_oneCell_toArray (bvs_one _)
          have HZ := Lib.hid hz
          have HI41 := Lib.hid hi41
          have HONE := Lib.hid hone
          clear h5 hz hi41 hone
          have tok1 : True := trivial
          have tok2 : True := trivial
          go_wp2_with (first
            | (have _t := tok1; refine wpList_load_row rfl 25 (.tmp 6) rfl O rfl 25 (outB u 32).toArray (0, 0) _ H5.out.out Tryz.underlying25 rfl HI41.out ?_; clear tok1 _t)
            | (have _t := tok2; refine wpList_store_mid rfl 25 (.tmp 2) (.tmp 40) rfl w.heap.size 0 (outB u 32).toArray rfl rfl (H5.out.rs.res.there 0 _ (by rw [HZ.out]; exact Nat.le_refl _)) HI41.out HONE.out ?_; clear tok2 _t))
          have hbf := H5.out.rs.res.filled (outB u 32).toArray.toList (by rw [Array.length_toList, HZ.out]; rfl)
          refine bodyPost_ret (results_blk rfl rfl hbf Tryz.underlying25 rfl (by simpa using HI41.out)) rfl ⟨?_, only_setCells H5.out.rs.rest _ _ (.inr (Nat.le_refl _)) _⟩
          have hsha : shaL s.data.toList = hashL u := by
            rw [EU.out, HT.out]
            exact shaL_eq _ j (by rw [← HT.out]; simpa using HMT.out)
          rw [hsha, ← outB_all]
end Go.Proofs.YtclpebgjmgfigaaGreatDoor
