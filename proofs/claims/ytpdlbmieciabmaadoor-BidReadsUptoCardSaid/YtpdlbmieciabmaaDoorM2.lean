/- What is proved here: several parts. the schedule of the program's SHA-256. Conditions: the block's 64 bytes can be read. · a block is added to the state of the program's SHA-256. Conditions: the block's 64 bytes can be read, and the state's cells. · a slice of bytes that the call has made (also out of a string), and what append lays behind it; no function of the program. No conditions. · how a walk takes a string turned into bytes, and an append to a slice of bytes that the call has made; no function of the program. No conditions. · slices.Chunk over a slice of bytes in pieces of 64, its iterator for every loop body that leaves two blocks alone. Conditions: the length is a multiple of 64. · the bytes of words, the padding and the start of the program's SHA-256. Conditions: what is summed is shorter than 2^45 bytes. · the program's SHA-256, whole. Conditions: what is summed is shorter than 2^45 bytes. -/
import Derived.Test.YtpdlbmieciabmaaDoorM1
import Derived.Deep.AppendSrc
import Derived.Lib.AppendZerosOnto
import Derived.Laws.IdiomStrings
import Derived.RangeFuncNested
import Derived.RangeFuncBound
import Derived.RangeFuncCalls
import Derived.RangeFuncLeaves
import Derived.Shelf.Abstract
import Derived.Shelf.RegionOpen
import Derived.OwnWalkIn
import Derived.TacticsInMore
import Derived.LoopNIn
import Derived.LoopIn
import Derived.RegionIn
import Derived.Deep.RegionLaw
import Derived.Deep.RegionHeld3
namespace Go.Proofs.YtpdlbmieciabmaaDoor
open Go.RowKit

/-- The array of words, of which i are known. -/
def wrow (b : List UInt8) (i : Nat) : Array Value := ((sched b i).map wv ++ List.replicate (64 - i) (Value.int .u32 0)).toArray
theorem wrow_get {b : List UInt8} {i k : Nat} (h : k < i) : (wrow b i)[k]? = some (wv ((sched b i).getD k 0)) := by
  have hk : k < (sched b i).length := by rw [sched_len]; exact h
  rw [wrow, List.getElem?_toArray, List.getElem?_append_left (by simpa using hk), List.getElem?_map, List.getD_eq_getElem?_getD, List.getElem?_eq_getElem hk]
  rfl
theorem wrow_set {b : List UInt8} {i : Nat} (h : i < 64) (x : W) (hx : sched b (i + 1) = sched b i ++ [x]) : (wrow b i).setIfInBounds i (wv x) = wrow b (i + 1) := by
  have hl : ((sched b i).map wv).length = i := by rw [List.length_map, sched_len]
  rw [wrow, wrow, hx, List.setIfInBounds_toArray, List.set_append_right _ _ (by omega), hl, Nat.sub_self, show 64 - i = (64 - (i + 1)) + 1 by omega, List.replicate_succ, List.set_cons_zero, List.map_append, List.append_assoc]
  rfl
theorem wrow_zero {b : List UInt8} {i k : Nat} (h : i ≤ k) (hk : k < 64) : (wrow b i)[k]? = some (.int .u32 0) := by
  rw [wrow, List.getElem?_toArray, List.getElem?_append_right (by rw [List.length_map, sched_len]; exact h), List.length_map, sched_len, List.getElem?_replicate, if_pos (by omega)]
theorem wordAt_of {b : List UInt8} {i : Nat} {x0 x1 x2 x3 : UInt8} (e0 : b[4 * i]? = some x0) (e1 : b[4 * i + 1]? = some x1) (e2 : b[4 * i + 2]? = some x2) (e3 : b[4 * i + 3]? = some x3) :
    wordAt b i = (bw x0 <<< 24) ||| (bw x1 <<< 16) ||| (bw x2 <<< 8) ||| bw x3 := by
  simp [wordAt, byteAt, bw, List.getD_eq_getElem?_getD, e0, e1, e2, e3]
theorem wrow_size (b : List UInt8) {i : Nat} (h : i ≤ 64) : (wrow b i).size = 64 := by simp [wrow, sched_len]; omega
theorem wrow_full (b : List UInt8) : wrow b 64 = ((sched b 64).map wv).toArray := by simp [wrow]
theorem wv_one (x : W) : (wv x).oneCell' = true := rfl
theorem w_sum4 (a b c d : W) : ((a.toNat : Int) + (b.toNat : Int) + (c.toNat : Int) + (d.toNat : Int)) % 4294967296 = ((a + b + c + d).toNat : Int) := by
  rw [BitVec.toNat_add, BitVec.toNat_add, BitVec.toNat_add]
  have := a.isLt; have := b.isLt; have := c.isLt; have := d.isLt
  omega
theorem w_shrk (x : W) (n : Nat) (m : Int) (hm : m = 2 ^ n) : (x.toNat : Int) / m = ((x >>> n).toNat : Int) := by rw [hm]; exact w_shr x n
theorem sched_low {b : List UInt8} {i : Nat} (h : i < 16) : sched b (i + 1) = sched b i ++ [wordAt b i] := by
  show sched b i ++ [if i < 16 then _ else _] = _
  rw [if_pos h]
theorem sched_high {b : List UInt8} {i : Nat} (h : 16 ≤ i) : sched b (i + 1) = sched b i ++ [(sched b i).getD (i - 16) 0 + ssig ((sched b i).getD (i - 15) 0) 7 18 3 + (sched b i).getD (i - 7) 0 + ssig ((sched b i).getD (i - 2) 0) 17 19 10] := by
  show sched b i ++ [if i < 16 then _ else _] = _
  rw [if_neg (by omega)]
end Go.Proofs.YtpdlbmieciabmaaDoor
namespace Go.Proofs.YtpdlbmieciabmaaDoor
open Go.RowKit

theorem krow_get {i : Nat} (h : i < 64) : (shaK.map wv).toArray[i]? = some (wv (shaK.getD i 0)) := by
  have hk : i < shaK.length := h
  rw [List.getElem?_toArray, List.getElem?_map, List.getD_eq_getElem?_getD, List.getElem?_eq_getElem hk]
  rfl
theorem w_not' (x : W) : bits .xor .u32 IntKind.u32.max (x.toNat : Int) = ((~~~x).toNat : Int) := w_not x
/-- The state when i words of t have been added. -/
def part (s t : St) (i : Nat) : List Value := (s.add t).vals.take i ++ s.vals.drop i
def sw (s : St) (i : Nat) : W := [s.a, s.b, s.c, s.d, s.e, s.f, s.g, s.h].getD i 0
theorem eight {i : Nat} (h : i < 8) : i = 0 ∨ i = 1 ∨ i = 2 ∨ i = 3 ∨ i = 4 ∨ i = 5 ∨ i = 6 ∨ i = 7 := by omega
theorem vals_get (s : St) {i : Nat} (h : i < 8) : s.vals.toArray[i]? = some (wv (sw s i)) := by
  rcases eight h with rfl | rfl | rfl | rfl | rfl | rfl | rfl | rfl <;> rfl
theorem part_get (s t : St) {i : Nat} (h : i < 8) : (part s t i).toArray[i]? = some (wv (sw s i)) := by
  rcases eight h with rfl | rfl | rfl | rfl | rfl | rfl | rfl | rfl <;> rfl
theorem part_set (s t : St) {i : Nat} (h : i < 8) : (part s t i).toArray.setIfInBounds i (wv (sw s i + sw t i)) = (part s t (i + 1)).toArray := by
  rcases eight h with rfl | rfl | rfl | rfl | rfl | rfl | rfl | rfl <;> rfl
end Go.Proofs.YtpdlbmieciabmaaDoor
namespace Go.Proofs.YtpdlbmieciabmaaDoor
open Go.RowKit

/-- The slice value v lies in a block of bytes of its own, from its first cell on; its bytes are l. -/
def Buf (w : World) (e : TypeId) (v : Value) (l : List UInt8) : Prop :=
  ∃ (g cap : Nat) (cur : Array Value) (lo hi : Nat), v = .slice (some ⟨g, 0, none⟩) l.length cap ∧ w.heap[g]? = some (.cells cur e (lo, hi)) ∧ cur.size = cap ∧ l.length ≤ cap ∧ cap ≤ maxLen ∧ (cap ≤ lo ∨ hi = 0) ∧ cur.toList.take l.length = l.map bv

section
variable {w w' : World} {e : TypeId} {v : Value} {l : List UInt8}
theorem Buf.form (h : Buf w e v l) : ∃ g cap, v = .slice (some ⟨g, 0, none⟩) l.length cap ∧ g < w.heap.size ∧ l.length ≤ cap ∧ cap ≤ maxLen ∧ BytesAt w g 0 l := by
  obtain ⟨g, cap, cur, lo, hi, rfl, hh, hcs, hc, hm, _, ht⟩ := h
  refine ⟨g, cap, rfl, (Array.getElem?_eq_some_iff.1 hh).1, hc, hm, fun j x hx => ?_⟩
  have hj : j < l.length := (List.getElem?_eq_some_iff.1 hx).1
  have h1 : (cur.toList.take l.length)[j]? = some (bv x) := by rw [ht, List.getElem?_map, hx]; rfl
  rw [List.getElem?_take, if_pos hj] at h1
  rw [Nat.zero_add]
  unfold World.cell?
  simp only [hh]
  simpa using h1
theorem Buf.only {S : Nat → Prop} (h : Buf w e v l) (ho : Only S w w') (hn : ∀ k, v.ownBlock = some k → ¬ S k) : Buf w' e v l := by
  obtain ⟨g, cap, cur, lo, hi, rfl, hh, hr⟩ := h
  exact ⟨g, cap, cur, lo, hi, rfl, (ho.block g (Array.getElem?_eq_some_iff.1 hh).1 (hn g rfl)).trans hh, hr⟩
theorem Buf.drewN (h : Buf w e v l) (n : Nat) : Buf (w.drewN n) e v l := h
theorem Buf.lt (h : Buf w e v l) {k : Nat} (hk : v.ownBlock = some k) : k < w.heap.size := by
  obtain ⟨g, cap, cur, lo, hi, rfl, hh, _⟩ := h
  cases hk
  exact (Array.getElem?_eq_some_iff.1 hh).1
theorem byteCells_eq (s : ByteArray) : byteCells s = s.data.toList.map bv := rfl
theorem Buf.of_string (w : World) (e : TypeId) (s : ByteArray) (hs : s.size ≤ maxLen) :
    Buf (w.drew.alloc (.cells (bytesRow s (grownCap w s.size 0 e)) e ((bytesRow s (grownCap w s.size 0 e)).size, (bytesRow s (grownCap w s.size 0 e)).size + 1))) e (.slice (some ⟨w.heap.size, 0, none⟩) s.size (grownCap w s.size 0 e)) s.data.toList := by
  have hge := grownCap_ge w s.size 0 e
  have hsz : (bytesRow s (grownCap w s.size 0 e)).size = grownCap w s.size 0 e := by
    simp only [bytesRow, Array.size_append, Array.size_map, Array.size_replicate]
    have : s.data.size = s.size := rfl
    omega
  have hl : s.data.toList.length = s.size := by simp
  refine ⟨w.heap.size, grownCap w s.size 0 e, _, _, _, ?_, heap_alloc_new w.drew _, hsz, by rw [hl]; exact hge, grownCap_le_maxLen w _ _ _ hs, .inl (by rw [hsz]; exact Nat.le_refl _), ?_⟩
  · rw [hl]
  · simp only [bytesRow, Array.toList_append, Array.toList_map]
    rw [List.take_append_of_le_length (by simp), List.take_of_length_le (by simp)]
    rfl
theorem zero_u8 (n : Nat) : Builtin.zeroCells (Value.int .u8 0).cells n = ((List.replicate n (0 : UInt8)).map bv).toArray := by
  apply Array.ext'
  apply List.ext_getElem?
  intro i
  simp only [Builtin.zeroCells, Value.cells]
  by_cases h : i < n
  · simp [h, Nat.mod_one, bv]
  · simp [h]
end

section
variable {P : Program} {w : World} {e : TypeId} {v : Value} {l : List UInt8}
theorem Buf.firsts (h : Buf w e v l) {cap : Nat} {b : Option Addr} (_hv : v = .slice b l.length cap) : (Builtin.firstCells 1 l.length v).run P w.drew = .ok (l.map bv).toArray w.drew := by
  obtain ⟨g, cap', hv', _, _, _, hb⟩ := h.form
  rw [hv']
  refine run_firstCells_some (P := P) w.drew 1 l.length ⟨g, 0, none⟩ _ _ (l.map bv) (by simp) (fun j u hu => ?_)
  rw [List.getElem?_map] at hu
  cases hx : l[j]? with
  | none => rw [hx] at hu; cases hu
  | some x =>
    rw [hx] at hu
    cases hu
    rw [Addr.add_mid]
    exact hb j x hx
/-- What lies behind an append with room. -/
theorem Buf.stored (h : Buf w e v l) (news : List UInt8) {g cap : Nat} (hv : v = .slice (some ⟨g, 0, none⟩) l.length cap) (hroom : l.length + news.length ≤ cap) :
    Buf (w.setCells g (0 + l.length * 1) (news.map bv)) e (.slice (some ⟨g, 0, none⟩) (l.length + news.length) cap) (l ++ news) ∧ w.there g (0 + l.length * 1) news.length := by
  obtain ⟨g', cap', cur, lo, hi, hv', hh, hcs, hc, hm, hz, ht⟩ := h
  rw [hv] at hv'
  simp only [Value.slice.injEq, Option.some.injEq, Addr.mk.injEq, and_true, true_and] at hv'
  obtain ⟨rfl, rfl⟩ := hv'
  rw [Nat.zero_add, Nat.mul_one]
  have hheap : ∀ (vs : List Value) (o : Nat) (W : World) (xs : List Value), W.heap[g]? = some (.cells xs.toArray e (lo, hi)) → (W.setCells g o vs).heap[g]? = some (.cells (setMany xs o vs).toArray e (lo, hi)) := by
    intro vs
    induction vs with
    | nil => intro o W xs h; exact h
    | cons u r ih =>
      intro o W xs h
      refine ih (o + 1) (W.setCell ⟨g, o, none⟩ u) (xs.set o u) ?_
      simp [World.setCell, Array.getElem?_modify, h]
  have h1 := hheap (news.map bv) l.length w cur.toList (by simpa using hh)
  have hlen : l.length + (news.map bv).length ≤ cur.toList.length := by simp; omega
  rw [setMany_eq _ _ _ hlen] at h1
  refine ⟨⟨g, cap, _, lo, hi, by simp, h1, by simp; omega, by simp; omega, hm, hz, ?_⟩, fun j hj => ⟨?_, ?_⟩⟩
  · rw [List.toList_toArray, ht, List.append_assoc, ← List.append_assoc, ← List.map_append, List.take_append_of_le_length (by simp), List.take_of_length_le (by simp)]
  · unfold World.cell?
    simp only [hh]
    rw [if_neg (by simp), Array.getElem?_eq_getElem (by omega)]
    rfl
  · unfold World.frozen?
    simp only [hh]
    rcases hz with hz | hz
    · simp; omega
    · simp [hz]
theorem Buf.grown (_h : Buf w e v l) (news : List UInt8) (cap : Nat) (hcap : l.length + news.length ≤ cap) (hm : cap ≤ maxLen) :
    Buf (w.drew.alloc (.cells (((l.map bv ++ news.map bv).toArray) ++ Builtin.zeroCells (Value.int .u8 0).cells (cap - (l.length + news.length))) e)) e (.slice (some ⟨w.heap.size, 0, none⟩) (l.length + news.length) cap) (l ++ news) := by
  refine ⟨w.heap.size, cap, _, 0, 0, by simp, heap_alloc_new w.drew _, by rw [zero_u8]; simp; omega, by simp; omega, hm, .inr rfl, ?_⟩
  rw [Array.toList_append, List.toList_toArray, List.take_append_of_le_length (by simp), List.take_of_length_le (by simp), List.map_append]
theorem run_append_buf (t tx ty : TypeId) (i : TypeInfo) (ht : P.underlying t = some (.slice e)) (hi : P.info? e = some i) (hz : i.zero = some (.int .u8 0)) (hsz : i.size = 1) (hby : i.bytes = 1)
    (hb : Buf w e v l) (x : Value) (news : List UInt8) (hs : Src P 1 tx x news.length (news.map bv) w) (hn : l.length + news.length ≤ 140737488355328) :
    ∃ v' w', (Builtin.append_ #[t, tx] ty #[v, x]).run P w = .ok v' w' ∧ Buf w' e v' (l ++ news) ∧ w.grownBy w' v.ownBlock ∧ (v'.ownBlock = v.ownBlock ∨ v'.ownBlock = some w.heap.size) := by
  obtain ⟨g, cap, hv, hlt, hc, hm, hbt⟩ := hb.form
  have hs' : Src P i.size tx x news.length (news.map bv) w := by rw [hsz]; exact hs
  by_cases hroom : l.length + news.length ≤ cap
  · obtain ⟨h1, h2⟩ := hb.stored news hv hroom
    refine ⟨_, _, ?_, h1, ?_, .inl (by rw [hv]; rfl)⟩
    · rw [hv]
      have := run_append_room_src (P := P) w t tx ty e i ht hi g 0 l.length cap x news.length _ hs' hroom
        (fun j hj => by rw [hsz]; exact (h2 j (by simpa using hj)).1) (fun j hj => by rw [hsz]; exact (h2 j (by simpa using hj)).2)
      rw [hsz] at this
      exact this
    · have := only_setCells (Only.refl (fun k => v.ownBlock = some k) w) g (0 + l.length * 1) (.inl (by rw [hv]; rfl)) (news.map bv)
      exact this.grownBy (fun k hk => hk.symm)
  · have hr := run_append_grow_src (P := P) w t tx ty e i (.int .u8 0) ht hi hz (some ⟨g, 0, none⟩) l.length cap (l.map bv) (by rw [hsz, ← hv]; exact hb.firsts hv) x news.length _ hs' (by omega) (by omega) (growslice_fits (by omega) (by rw [hby]; omega))
    refine ⟨_, _, by rw [hv]; exact hr, hb.grown news _ (grownCap_ge _ _ _ _) (grownCap_le_maxLen _ _ _ _ (by unfold maxLen; omega)), ?_, .inr rfl⟩
    exact ⟨rfl, rfl, rfl, by simp, fun k hk _ => Below.heap_alloc w.drew _ k hk⟩
/-- 'append(v, make([]byte, k)...)'. -/
theorem run_append_zeros_buf (t tn ty : TypeId) (i : TypeInfo) (kn kq : IntKind) (ht : P.underlying t = some (.slice e)) (htn : P.underlying tn = some (.int kn)) (hi : P.info? e = some i) (hz : i.zero = some (.int .u8 0)) (hsz : i.size = 1) (hby : i.bytes = 1)
    (hb : Buf w e v l) (k : Nat) (hn : l.length + k ≤ 140737488355328) :
    ∃ v' w', (Builtin.append_ #[t, tn] ty #[v, .int kq (k : Int)]).run P w = .ok v' w' ∧ Buf w' e v' (l ++ List.replicate k 0) ∧ w.grownBy w' v.ownBlock ∧ (v'.ownBlock = v.ownBlock ∨ v'.ownBlock = some w.heap.size) := by
  obtain ⟨g, cap, hv, hlt, hc, hm, hbt⟩ := hb.form
  have hlk : (List.replicate k (0 : UInt8)).length = k := by simp
  have hw : IntKind.i64.wrap (k : Int) = k := by rw [IntKind.wrap_i64]; omega
  have h48i : ¬ (281474976710656 < (k : Int)) := by omega
  have hneg : ¬ ((k : Int) < 0) := by omega
  by_cases hroom : l.length + k ≤ cap
  · obtain ⟨h1, h2⟩ := hb.stored (List.replicate k 0) hv (by rw [hlk]; exact hroom)
    rw [hlk] at h1 h2
    refine ⟨_, _, ?_, h1, ?_, .inl (by rw [hv]; rfl)⟩
    · rw [hv]
      have hst := run_storeCells_cells (P := P) g (0 + l.length * 1) ((List.replicate k (0 : UInt8)).map bv) 0 w (fun j hj => by rw [Nat.add_zero]; exact (h2 j (by simpa using hj)).1) (fun j hj => by rw [Nat.add_zero]; exact (h2 j (by simpa using hj)).2) (fun u hu => by obtain ⟨_, _, rfl⟩ := List.mem_map.1 hu; rfl)
      simp only [Nat.add_zero, Nat.zero_add, Nat.mul_one] at hst ⊢
      by_cases hk : k = 0
      · subst hk
        have hw0 : IntKind.i64.wrap 0 = 0 := rfl
        simp [Builtin.append_, run_underlying ht, run_underlying htn, sizeOf, typeInfo, zeroValue, hi, hz, hby, asInt, asIntOf, hw0, hc, storeCells] at hst ⊢
        rfl
      · simp [Builtin.append_, run_underlying ht, run_underlying htn, sizeOf, typeInfo, zeroValue, hi, hz, hsz, hby, asInt, asIntOf, hw, hneg, h48i, hroom, hk, Addr.add_lit, zero_u8]
        simp at hst
        simp [hst]
    · have := only_setCells (Only.refl (fun k => v.ownBlock = some k) w) g (0 + l.length * 1) (.inl (by rw [hv]; rfl)) ((List.replicate k (0 : UInt8)).map bv)
      exact this.grownBy (fun k hk => hk.symm)
  · have hr := Lib.run_append_grow_zeros (P := P) w t tn ty e i (.int .u8 0) kq kn ht htn hi hz (some ⟨g, 0, none⟩) l.length cap (l.map bv) (by rw [hsz, ← hv]; exact hb.firsts hv) k (by omega) (by omega) (by omega) (by omega) (by rw [hby]; omega) (growslice_fits (by omega) (by rw [hby]; omega))
    have h2 := hb.grown (List.replicate k 0) (grownCap w (l.length + k) cap e) (by rw [hlk]; exact grownCap_ge _ _ _ _) (grownCap_le_maxLen _ _ _ _ (by unfold maxLen; omega))
    rw [hlk] at h2
    have e1 : (l.map bv).toArray ++ ((List.replicate k (0 : UInt8)).map bv).toArray = (l.map bv ++ (List.replicate k (0 : UInt8)).map bv).toArray := Array.ext' (by simp)
    rw [zero_u8 k, ← hv, e1] at hr
    refine ⟨_, _, hr, ?_, ⟨rfl, rfl, rfl, by simp, fun k hk _ => Below.heap_alloc w.drew _ k hk⟩, .inr rfl⟩
    exact h2
end
end Go.Proofs.YtpdlbmieciabmaaDoor
namespace Go.Proofs.YtpdlbmieciabmaaDoor
open Go.RowKit

theorem BytesAt.new (w : World) (t : TypeId) (l : List UInt8) : BytesAt (w.alloc (.cells (l.map bv).toArray t)) w.heap.size 0 l := fun j x hx => by
  rw [Nat.zero_add, (Blk.new w t _).cell, List.getElem?_toArray, List.getElem?_map, hx]
  rfl
theorem src_bytes {P : Program} {tx e : TypeId} (hk : P.underlying tx = some (.slice e)) {W : World} {g c n : Nat} {l : List UInt8} (h : BytesAt W g 0 l) (hn : l.length = n) : Src P 1 tx (.slice (some ⟨g, 0, none⟩) n c) l.length (l.map bv) W := by
  subst hn
  refine Src.ofSlice W hk ⟨g, 0, none⟩ l.length c (l.map bv) (by simp) (fun j u hu => ?_) (fun u hu => by obtain ⟨_, _, rfl⟩ := List.mem_map.1 hu; rfl)
  rw [List.getElem?_map] at hu
  cases hx : l[j]? with
  | none => rw [hx] at hu; cases hu
  | some x =>
    rw [hx] at hu
    cases hu
    rw [Addr.add_mid]
    exact h j x hx
theorem Buf.bytes {w : World} {e : TypeId} {g n c : Nat} {l : List UInt8} (h : Buf w e (.slice (some ⟨g, 0, none⟩) n c) l) : BytesAt w g 0 l := by
  obtain ⟨_, _, hv, _, _, _, hb⟩ := h.form
  simp only [Value.slice.injEq, Option.some.injEq, Addr.mk.injEq, and_true] at hv
  rw [hv.1]
  exact hb
theorem Buf.alloc {w : World} {e : TypeId} {v : Value} {l : List UInt8} (h : Buf w e v l) (o : Obj) : Buf (w.alloc o) e v l := h.only ((Only.refl NoneOf w).alloc o) (fun _ _ h => h)
/-- What a row that grows leaves alone: all that lay at first. -/
theorem only_grow {w w1 w2 : World} {g : Nat} {n c : Nat} (ho : Only NoneOf w w1) (hg : w1.grownBy w2 (Value.slice (some ⟨g, 0, none⟩) n c).ownBlock) (hge : w.heap.size ≤ g) : Only NoneOf w w2 :=
  ho.grown hg (fun k hk => .inr (by cases hk; exact hge))
section
variable {P : Program} {w : World} {ops : Array Oper} {rest : List Oper} {o : Oper} {a : Act} {Q : Exit → Act → World → Prop}
theorem wpList_convert_string (hgd : o.guard = none) (src dst e : TypeId) (x : Operand) (ho : o.op = .convert src dst x) (s : ByteArray) (hx : a.eval x = .string s)
    (hs : P.underlying src = some .string) (hd : P.underlying dst = some (.slice e)) (he : P.underlying e = some (.int .u8)) (hm : s.size ≤ maxLen) (B0 : World) (nB : Nat) (hB : B0.heap.size = nB) (ho0 : Only NoneOf B0 w)
    (h : ∀ g cap w', Hid (Buf w' e (.slice (some ⟨g, 0, none⟩) s.size cap) s.data.toList) → Hid (Only NoneOf B0 w') → nB ≤ g → g < w'.heap.size → s.size ≤ cap → cap ≤ maxLen → wpList P ops Q rest (a.put o.dst (.slice (some ⟨g, 0, none⟩) s.size cap)) w') : wpList P ops Q (o :: rest) a w := by
  refine wpList_plain hgd fun K hK => ?_
  unfold Oper.wp execOp
  simp only [ho, hx, Sem.run_bind, Result.andThen_ok, run_bytes_of_string w src dst e s hs hd he]
  have hb := Buf.of_string w e s hm
  exact hK _ _ (h _ _ _ hb (ho0.drew.alloc _) (by rw [← hB]; exact ho0.size) (by simp) (grownCap_ge _ _ _ _) (grownCap_le_maxLen _ _ _ _ hm))
theorem wpList_append_buf (hgd : o.guard = none) (s x : Operand) (t tx : TypeId) (ho : o.op = .call { callee := .builtin .append, args := #[s, x], argTypes := #[t, tx] })
    (e : TypeId) (i : TypeInfo) (ht : P.underlying t = some (.slice e)) (hi : P.info? e = some i) (hz : i.zero = some (.int .u8 0)) (hsz : i.size = 1) (hby : i.bytes = 1)
    (g0 q0 cap0 : Nat) (l : List UInt8) (hv : a.eval s = .slice (some ⟨g0, 0, none⟩) q0 cap0) (hb : Buf w e (.slice (some ⟨g0, 0, none⟩) q0 cap0) l) (B0 : World) (nB : Nat) (hB : B0.heap.size = nB) (ho0 : Only NoneOf B0 w) (hge : nB ≤ g0) (vx : Value) (hx : a.eval x = vx) (news : List UInt8) (hs : Src P 1 tx vx news.length (news.map bv) w) (hn : l.length + news.length ≤ 140737488355328)
    (L : List UInt8) (N : Nat) (hL : l ++ news = L) (hN : L.length = N)
    (h : ∀ g cap w', Hid (Buf w' e (.slice (some ⟨g, 0, none⟩) N cap) L) → Hid (Only NoneOf B0 w') → nB ≤ g → g < w'.heap.size → N ≤ cap → cap ≤ maxLen → wpList P ops Q rest (a.put o.dst (.slice (some ⟨g, 0, none⟩) N cap)) w') : wpList P ops Q (o :: rest) a w := by
  obtain ⟨v', w', hr, h1, h2, h3⟩ := run_append_buf (P := P) t tx o.type i ht hi hz hsz hby hb vx news hs hn
  obtain ⟨g, cap, rfl, hg, hc, hm, _⟩ := h1.form
  rw [hL, hN] at *
  refine Lib.wpList_append_run w hgd s x t tx ho _ vx hv hx _ w' hr (h g cap w' h1 (only_grow ho0 h2 (by omega)) ?_ hg hc hm)
  rcases h3 with h3 | h3
  · cases h3; exact hge
  · cases h3; rw [← hB]; exact ho0.size
theorem wpList_append_zeros (hgd : o.guard = none) (s x : Operand) (t tn : TypeId) (ho : o.op = .call { callee := .builtin .append, args := #[s, x], argTypes := #[t, tn] })
    (e : TypeId) (i : TypeInfo) (kn kq : IntKind) (ht : P.underlying t = some (.slice e)) (htn : P.underlying tn = some (.int kn)) (hi : P.info? e = some i) (hz : i.zero = some (.int .u8 0)) (hsz : i.size = 1) (hby : i.bytes = 1)
    (g0 q0 cap0 : Nat) (l : List UInt8) (hv : a.eval s = .slice (some ⟨g0, 0, none⟩) q0 cap0) (hb : Buf w e (.slice (some ⟨g0, 0, none⟩) q0 cap0) l) (B0 : World) (nB : Nat) (hB : B0.heap.size = nB) (ho0 : Only NoneOf B0 w) (hge : nB ≤ g0) (k : Nat) (hx : a.eval x = .int kq (k : Int)) (hn : l.length + k ≤ 140737488355328)
    (L : List UInt8) (N : Nat) (hL : l ++ List.replicate k 0 = L) (hN : L.length = N)
    (h : ∀ g cap w', Hid (Buf w' e (.slice (some ⟨g, 0, none⟩) N cap) L) → Hid (Only NoneOf B0 w') → nB ≤ g → g < w'.heap.size → N ≤ cap → cap ≤ maxLen → wpList P ops Q rest (a.put o.dst (.slice (some ⟨g, 0, none⟩) N cap)) w') : wpList P ops Q (o :: rest) a w := by
  obtain ⟨v', w', hr, h1, h2, h3⟩ := run_append_zeros_buf (P := P) t tn o.type i kn kq ht htn hi hz hsz hby hb k hn
  obtain ⟨g, cap, rfl, hg, hc, hm, _⟩ := h1.form
  rw [hL, hN] at *
  refine Lib.wpList_append_run w hgd s x t tn ho _ _ hv hx _ w' hr (h g cap w' h1 (only_grow ho0 h2 (by omega)) ?_ hg hc hm)
  rcases h3 with h3 | h3
  · cases h3; exact hge
  · cases h3; rw [← hB]; exact ho0.size
theorem wpList_copy_bytes (hgd : o.guard = none) (d s : Operand) (dT sT : TypeId) (ho : o.op = .call { callee := .builtin .copy, args := #[d, s], argTypes := #[dT, sT] })
    (elem : TypeId) (hu : P.underlying dT = some (.slice elem)) (hz : (P.info? elem).map (·.size) = some 1)
    (b off dLen dCap : Nat) (ad : Addr) (sLen sCap : Nat) (hd : a.eval d = .slice (some ⟨b, off, none⟩) dLen dCap) (hsv : a.eval s = .slice (some ad) sLen sCap)
    (cs : List Value) (hn : cs.length = Nat.min sLen dLen) (hsrc : ∀ j v, cs[j]? = some v → w.cell? (ad.add j) = some v) (hth : w.there b off cs.length) (h1 : ∀ v ∈ cs, v.oneCell' = true)
    (h : wpList P ops Q rest (a.put o.dst (goInt cs.length)) (w.setCells b off cs)) : wpList P ops Q (o :: rest) a w := by
  refine wpList_plain hgd fun K hK => ?_
  have hrun := run_copy_cells (P := P) w dT sT o.type elem b off dLen dCap ad sLen sCap cs hu hz hn hsrc (fun j hj => (hth j hj).1) (fun j hj => (hth j hj).2) h1
  unfold Oper.wp
  simp [execOp, ho, resolve, invoke, builtin, hd, hsv, hrun, Result.andThen]
  exact hK _ _ h
theorem wpList_convert_back (hgd : o.guard = none) (src dst e : TypeId) (x : Operand) (ho : o.op = .convert src dst x) (g of n cap : Nat) (hx : a.eval x = .slice (some ⟨g, of, none⟩) n cap) (l : List UInt8) (hl : l.length = n) (hb : BytesAt w g of l)
    (hs : P.underlying src = some (.slice e)) (he : P.underlying e = some (.int .u8)) (hd : P.underlying dst = some .string)
    (h : wpList P ops Q rest (a.put o.dst (.string ⟨l.toArray⟩)) w) : wpList P ops Q (o :: rest) a w := by
  subst hl
  refine wpList_plain hgd fun K hK => ?_
  have hr := run_convert_bytes_back (P := P) w src dst e ⟨g, of, none⟩ cap l hs he hd (fun j hj => by
    rw [Addr.add_mid]
    exact hb j _ (List.getElem?_eq_getElem hj))
  unfold Oper.wp execOp
  simp only [ho, hx, Sem.run_bind, Result.andThen_ok, hr]
  exact hK _ _ h
theorem bytesAt_one (w : World) (t : TypeId) (v : Int) (b : UInt8) (hv : v = (b.toNat : Int)) : BytesAt (w.alloc (.cells #[.int .u8 v] t)) w.heap.size 0 [b] := by
  subst hv
  exact BytesAt.new w t [b]
theorem step_copy_bytes {K : Act → World → Prop} {E : Prop} (hgd : o.guard = none) (d s : Operand) (dT sT : TypeId) (ho : o.op = .call { callee := .builtin .copy, args := #[d, s], argTypes := #[dT, sT] })
    (elem : TypeId) (hu : P.underlying dT = some (.slice elem)) (hz : (P.info? elem).map (·.size) = some 1)
    (b off dLen dCap : Nat) (ad : Addr) (sLen sCap : Nat) (hd : a.eval d = .slice (some ⟨b, off, none⟩) dLen dCap) (hsv : a.eval s = .slice (some ad) sLen sCap)
    (cs : List Value) (hn : cs.length = Nat.min sLen dLen) (hsrc : ∀ j v, cs[j]? = some v → w.cell? (ad.add j) = some v) (hth : w.there b off cs.length) (h1 : ∀ v ∈ cs, v.oneCell' = true)
    (h : K (a.put o.dst (goInt cs.length)) (w.setCells b off cs)) : if Region.wanted o (yielded ops a.tmps) = true then Oper.wp P o a w K Q else E := by
  have hw : Region.wanted o (yielded ops a.tmps) = true := by simp [Region.wanted, hgd]
  rw [if_pos hw]
  have hrun := run_copy_cells (P := P) w dT sT o.type elem b off dLen dCap ad sLen sCap cs hu hz hn hsrc (fun j hj => (hth j hj).1) (fun j hj => (hth j hj).2) h1
  unfold Oper.wp
  simp [execOp, ho, resolve, invoke, builtin, hd, hsv, hrun, Result.andThen]
  exact h
theorem bvs_one (l : List UInt8) : ∀ v ∈ l.map bv, v.oneCell' = true := fun v hv => by obtain ⟨_, _, rfl⟩ := List.mem_map.1 hv; rfl
theorem bytes_src {w : World} {g o : Nat} {l : List UInt8} (h : BytesAt w g o l) : ∀ j v, (l.map bv)[j]? = some v → w.cell? ((⟨g, o, none⟩ : Addr).add j) = some v := fun j u hu => by
  rw [List.getElem?_map] at hu
  cases hx : l[j]? with
  | none => rw [hx] at hu; cases hu
  | some x =>
    rw [hx] at hu
    cases hu
    rw [Addr.add_mid]
    exact h j x hx
end
end Go.Proofs.YtpdlbmieciabmaaDoor
namespace Go.Proofs.YtpdlbmieciabmaaDoor
open Go.RowKit Go.Shelf
attribute [local go_sem] Oper.semAt_some

/-- Two blocks lie as they lay. -/
def Kept2 (A B : Nat) (W W' : World) : Prop := W'.heap[A]? = W.heap[A]? ∧ W'.heap[B]? = W.heap[B]?
theorem kept2_t {A B : Nat} {X Y Z : World} (h : Kept2 A B X Y) (k : Kept2 A B Y Z) : Kept2 A B X Z := ⟨k.1.trans h.1, k.2.trans h.2⟩
theorem kept2_b {A B : Nat} {w : World} (hA : A < w.heap.size) (hB : B < w.heap.size) (W : World) (l : Nat) (o o' : Obj) (hl : w.heap.size ≤ l) (_ : W.heap[l]? = some o) (_ : o.isCells = false) (_ : o.isWalk = false) : Kept2 A B W (W.putObj l o') :=
  ⟨World.putObj_heap_other (by omega), World.putObj_heap_other (by omega)⟩
theorem Kept2.refl (A B : Nat) (W : World) : Kept2 A B W W := ⟨rfl, rfl⟩
theorem Kept2.cell {A B : Nat} {W W' : World} (h : Kept2 A B W W') (o : Nat) : W'.cell? ⟨A, o, none⟩ = W.cell? ⟨A, o, none⟩ ∧ W'.cell? ⟨B, o, none⟩ = W.cell? ⟨B, o, none⟩ :=
  ⟨World.cell?_of_block h.1, World.cell?_of_block h.2⟩
/-- A piece. -/
def piece (g k : Nat) : Value := .slice (some ⟨g, 64 * k, none⟩) 64 64
theorem fin_take {m k : Nat} (h : k < m) : (List.finRange m).take (k + 1) = (List.finRange m).take k ++ [⟨k, h⟩] := by
  rw [List.take_succ_eq_append_getElem (by simpa using h)]
  simp
theorem fin_all (m : Nat) : (List.finRange m).take m = List.finRange m := List.take_of_length_le (by simp)
end Go.Proofs.YtpdlbmieciabmaaDoor
namespace Go.Proofs.YtpdlbmieciabmaaDoor
open Go.RowKit

theorem be8_eq (n : Nat) (h : n < 18446744073709551616) : be8 n = be4 (BitVec.ofNat 32 (n / 4294967296)) ++ be4 (BitVec.ofNat 32 n) := by
  have hb : ∀ a b : Nat, a % 256 = b % 256 → UInt8.ofNat a = UInt8.ofNat b := fun a b hab => by
    apply UInt8.toNat_inj.1
    simpa using hab
  simp only [be8, be4, List.map_cons, List.map_nil, List.cons_append, List.nil_append, BitVec.toNat_ofNat]
  congr 1
  · apply hb; omega
  congr 1
  · apply hb; omega
  congr 1
  · apply hb; omega
  congr 1
  · apply hb; omega
  congr 1
  · apply hb; omega
  congr 1
  · apply hb; omega
  congr 1
  · apply hb; omega
  congr 1
  apply hb; omega
theorem be4_len (x : W) : (be4 x).length = 4 := rfl
/-! ### The loop over the pieces -/
theorem BytesAt.part {w : World} {g : Nat} {p : List UInt8} (h : BytesAt w g 0 p) (o n : Nat) : BytesAt w g o ((p.drop o).take n) := fun j x hx => by
  have hj : j < n := by
    have := (List.getElem?_eq_some_iff.1 hx).1
    simp at this; omega
  rw [List.getElem?_take, if_pos hj, List.getElem?_drop] at hx
  have := h (o + j) x hx
  rwa [Nat.zero_add] at this
def pieceOf (p : List UInt8) (k : Nat) : List UInt8 := (p.drop (64 * k)).take 64
def foldC {m : Nat} (s : St) (p : List UInt8) (l : List (Fin m)) : St := l.foldl (fun t x => comp t (pieceOf p x.val)) s
theorem foldC_snoc {m : Nat} (s : St) (p : List UInt8) (l : List (Fin m)) (x : Fin m) : foldC s p (l ++ [x]) = comp (foldC s p l) (pieceOf p x.val) := by simp [foldC]
theorem foldC_take {m : Nat} (s : St) (p : List UInt8) (k : Nat) (h : k ≤ m) : foldC s p ((List.finRange m).take k) = comps s p k := by
  induction k with
  | zero => rfl
  | succ k ih => rw [fin_take (by omega), foldC_snoc, ih (by omega)]; rfl
theorem foldC_all {m : Nat} (s : St) (p : List UInt8) : foldC s p (List.finRange m) = comps s p m := by rw [← fin_all, foldC_take s p m (Nat.le_refl _)]
theorem keepsOthers_of_only {S : Nat → Prop} {W W' : World} (h : Only S W W') (hS : ∀ k, S k → ∃ o, W.heap[k]? = some o ∧ o.isCells = true) : KeepsOthers W W' :=
  ⟨h.size, fun k o hk ho => (h.block k (Array.getElem?_eq_some_iff.1 hk).1 (fun hs => by
    obtain ⟨o', h1, h2⟩ := hS k hs
    rw [hk] at h1; cases h1
    rw [ho] at h2; cases h2)).trans hk⟩
theorem new2_cell (W : World) (o : Obj) (t : TypeId) (cs : Array Value) (i : Nat) : ((W.alloc o).alloc (.cells cs t)).cell? ⟨W.heap.size + 1, i, none⟩ = cs[i]? := by
  have := (Blk.new (W.alloc o) t cs).cell i
  rwa [World.size_alloc] at this
theorem two_size (W : World) (o o' : Obj) : W.heap.size ≤ ((W.alloc o).alloc o').heap.size := by simp; omega
theorem Blk.put_far {w : World} {g : Nat} {t : TypeId} {cs : Array Value} (h : Blk w g t cs) {l : Nat} (hne : g ≠ l) (o : Obj) : Blk (w.putObj l o) g t cs := Eq.trans (World.putObj_heap_other (w := w) hne) h
/-- The bytes of a state. -/
def words (t : St) : List W := [t.a, t.b, t.c, t.d, t.e, t.f, t.g, t.h]
def hashL (t : St) : List UInt8 := (words t).flatMap be4
def outRow (t : St) (j : Nat) : List Value := (((words t).take j).flatMap be4).map bv ++ List.replicate (32 - 4 * j) (.int .u8 0)
theorem words_take (t : St) {j : Nat} (h : j < 8) : (words t).take (j + 1) = (words t).take j ++ [sw t j] := by
  rcases eight h with rfl | rfl | rfl | rfl | rfl | rfl | rfl | rfl <;> rfl
theorem be4_flat (L : List W) : (L.flatMap be4).length = 4 * L.length := by
  induction L with
  | nil => rfl
  | cons x l ih => rw [List.flatMap_cons, List.length_append, ih, be4_len, List.length_cons]; omega
theorem outRow_part (t : St) {j : Nat} (h : j ≤ 8) : ((((words t).take j).flatMap be4).map bv).length = 4 * j := by
  have : (words t).length = 8 := rfl
  rw [List.length_map, be4_flat, List.length_take, this]; omega
theorem outRow_len (t : St) {j : Nat} (h : j ≤ 8) : (outRow t j).length = 32 := by
  rw [outRow, List.length_append, outRow_part t h, List.length_replicate]; omega
theorem outRow_set (t : St) {j : Nat} (h : j < 8) : setMany (outRow t j) (4 * j) ((be4 (sw t j)).map bv) = outRow t (j + 1) := by
  have h1 := outRow_part t (Nat.le_of_lt h)
  have h4 : ((be4 (sw t j)).map bv).length = 4 := rfl
  rw [setMany_eq _ _ _ (by rw [outRow_len t (by omega), h4]; omega), outRow, h4, List.take_append_of_le_length (by omega), List.take_of_length_le (by omega)]
  rw [List.drop_append, List.drop_of_length_le (by omega), h1, outRow, words_take t h, List.flatMap_append, List.map_append]
  simp [List.drop_replicate]
  omega
theorem outRow_all (t : St) : outRow t 8 = (hashL t).map bv := by simp [outRow, hashL, words]
theorem shaL_eq (l : List UInt8) (m : Nat) (h : (padded l).length = 64 * m) : shaL l = hashL (comps st0 (padded l) m) := by
  have : (padded l).length / 64 = m := by omega
  simp only [shaL, this]
  simp [hashL, words]
end Go.Proofs.YtpdlbmieciabmaaDoor
namespace Go.Proofs.YtpdlbmieciabmaaDoor
open Go.RowKit Go.Shelf
attribute [local go_sem] Oper.semAt_some
theorem Tryd.info5 : (Tryd.prog.info? 5).map (fun i => (i.zero, i.size, i.bytes)) = some (some (.int .u8 0), 1, 1) := by kernel_rfl
def PadIs (n k : Nat) : Prop := (120 - (n : Int) % 64) % 64 = (k : Int)
theorem PadIs.v {n k : Nat} (h : PadIs n k) : Value.int .i64 ((120 - (n : Int) % 64) % 64) = .int .i64 (k : Int) := congrArg _ h
end Go.Proofs.YtpdlbmieciabmaaDoor
