/- What is proved here: the bytes of words, the padding and the start of the program's SHA-256. Conditions: what is summed is shorter than 2^45 bytes. -/
import Derived.Test.YtmgbcjjemlcfgaaGreatDoorShaD
import Derived.Test.YtmgbcjjemlcfgaaGreatDoorBufW
import Derived.Test.YtmgbcjjemlcfgaaGreatDoorChunk
namespace Go.Proofs.YtmgbcjjemlcfgaaGreatDoor
open Go.RowKit

theorem be8_eq (n : Nat) (h : n < 18446744073709551616) : be8 n = be4 (BitVec.ofNat 32 (n / 4294967296)) ++ be4 (BitVec.ofNat 32 n) := by
  have hb : ∀ a b : Nat, a % 256 = b % 256 → UInt8.ofNat a = UInt8.ofNat b := fun a b hab => by
    apply UInt8.toNat_inj.1
    simpa using hab
  simp only [be8, be4, List.map_cons, List.map_nil, List.cons_append, List.nil_append, BitVec.toNat_ofNat]
  congr 1
  · apply hb; omega
  congr 1
  · apply hb; omega
  congr 1
  · apply hb; omega
  congr 1
  · apply hb; omega
  congr 1
  · apply hb; omega
  congr 1
  · apply hb; omega
  congr 1
  · apply hb; omega
  congr 1
  apply hb; omega
theorem be4_len (x : W) : (be4 x).length = 4 := rfl
theorem bytes_at (v : Int) (x : W) (hv : v = (x.toNat : Int)) (w : World) :
    Calls Tryz.prog 69 #[.int .u32 v] w fun e w' => e = .returned (.slice (some ⟨w.heap.size, 0, none⟩) 4 4) ∧ w' = w.alloc (.cells ((be4 x).map bv).toArray 5) := by
  subst hv
  exact bytes_any x w
set_option maxHeartbeats 400000 in
theorem start_any (w : World) :
    Calls Tryz.prog 70 #[] w fun e w' => e = .returned (.agg st0.vals.toArray) ∧ Only NoneOf w w' := by
  go_enter Tryz.func70, Tryz.ntmps70
  go_wp2_with (refine wpList_store_mid rfl 69 (.tmp 0) (.tmp 1) rfl w.heap.size 0 st0.vals.toArray rfl rfl (there_new w 69 _ 8 (Nat.le_refl _)) (by kernel_rfl) (by decide +kernel) ?_)
  have hb := Blk.filled (Blk.new w 69 (List.replicate 8 (.int .u32 0)).toArray) st0.vals rfl
  refine bodyPost_ret (results_blk rfl rfl hb Tryz.underlying69 rfl (by kernel_rfl)) rfl ⟨rfl, ?_⟩
  exact only_setCells ((Only.refl NoneOf w).alloc _) w.heap.size 0 (.inr (Nat.le_refl _)) st0.vals
/-! ### The loop over the pieces -/
theorem BytesAt.part {w : World} {g : Nat} {p : List UInt8} (h : BytesAt w g 0 p) (o n : Nat) : BytesAt w g o ((p.drop o).take n) := fun j x hx => by
  have hj : j < n := by
    have := (List.getElem?_eq_some_iff.1 hx).1
    simp at this; omega
  rw [List.getElem?_take, if_pos hj, List.getElem?_drop] at hx
  have := h (o + j) x hx
  rwa [Nat.zero_add] at this
def pieceOf (p : List UInt8) (k : Nat) : List UInt8 := (p.drop (64 * k)).take 64
def foldC {m : Nat} (s : St) (p : List UInt8) (l : List (Fin m)) : St := l.foldl (fun t x => comp t (pieceOf p x.val)) s
theorem foldC_snoc {m : Nat} (s : St) (p : List UInt8) (l : List (Fin m)) (x : Fin m) : foldC s p (l ++ [x]) = comp (foldC s p l) (pieceOf p x.val) := by simp [foldC]
theorem foldC_take {m : Nat} (s : St) (p : List UInt8) (k : Nat) (h : k ≤ m) : foldC s p ((List.finRange m).take k) = comps s p k := by
  induction k with
  | zero => rfl
  | succ k ih => rw [fin_take (by omega), foldC_snoc, ih (by omega)]; rfl
theorem foldC_all {m : Nat} (s : St) (p : List UInt8) : foldC s p (List.finRange m) = comps s p m := by rw [← fin_all, foldC_take s p m (Nat.le_refl _)]
theorem keepsOthers_of_only {S : Nat → Prop} {W W' : World} (h : Only S W W') (hS : ∀ k, S k → ∃ o, W.heap[k]? = some o ∧ o.isCells = true) : KeepsOthers W W' :=
  ⟨h.size, fun k o hk ho => (h.block k (Array.getElem?_eq_some_iff.1 hk).1 (fun hs => by
    obtain ⟨o', h1, h2⟩ := hS k hs
    rw [hk] at h1; cases h1
    rw [ho] at h2; cases h2)).trans hk⟩
/-- What holds between two rounds: the state's cells are t, the bytes lie as they lay, all that lay at first too. -/
structure SumI (w0 : World) (st g : Nat) (p : List UInt8) (t : St) (W : World) : Prop where
  state : Blk W st 69 t.vals.toArray
  bytes : BytesAt W g 0 p
  lt : g < W.heap.size
  ne : g ≠ st
  rest : Only NoneOf w0 W
  st_new : w0.heap.size ≤ st
theorem sum_start {w0 w6 : World} {g : Nat} {p : List UInt8} {zs : Array Value} {ks : List Value} (hk : ks = st0.vals) (hz : zs.size = 8) (hby : BytesAt w6 g 0 p) (hlt : g < w6.heap.size) (ho : Only NoneOf w0 w6) :
    SumI w0 w6.heap.size g p st0 ((w6.alloc (.cells zs 69)).setCells w6.heap.size 0 ks) := by
  subst hk
  have h1 : Only NoneOf w6 ((w6.alloc (.cells zs 69)).setCells w6.heap.size 0 st0.vals) := only_setCells ((Only.refl NoneOf w6).alloc _) w6.heap.size 0 (.inr (Nat.le_refl _)) _
  refine ⟨?_, hby.only h1 (fun h => h), Nat.lt_of_lt_of_le hlt h1.size, by omega, ho.trans h1, ho.size⟩
  exact Blk.filled (xs := zs.toList) (by simpa using Blk.new w6 69 zs) st0.vals (by simp [hz]; rfl)
theorem SumI.grown {w0 : World} {st g : Nat} {p : List UInt8} {t : St} {X Y : World} {row : Option Nat} (h : SumI w0 st g p t X) (hp : 0 < p.length) (hg : X.grownBy Y row) (hr : ∀ r, row = some r → w0.heap.size ≤ r ∧ ∃ o : Obj, X.heap[r]? = some o ∧ o.isCells = false) : SumI w0 st g p t Y := by
  have hs : some st ≠ row := fun e => by
    obtain ⟨_, o, ho, hc⟩ := hr st e.symm
    have := h.state
    unfold Blk at this
    rw [ho] at this; cases this; cases hc
  have hgr : some g ≠ row := fun e => by
    obtain ⟨_, o, ho, hc⟩ := hr g e.symm
    have := h.bytes 0 _ (List.getElem?_eq_getElem hp)
    unfold World.cell? at this
    cases o with
    | cells cs t fr => cases hc
    | _ => simp [ho] at this
  refine ⟨h.state.grown hg hs, fun j x hx => ?_, Nat.lt_of_lt_of_le h.lt hg.size, h.ne, h.rest.grown hg (fun k hk => .inr (hr k hk).1), h.st_new⟩
  exact (World.cell?_of_block (hg.block g h.lt hgr)).trans (h.bytes j x hx)
theorem SumI.step {w0 : World} {st g : Nat} {p : List UInt8} {t t' : St} {X Y : World} (h : SumI w0 st g p t X) (hb : Blk Y st 69 t'.vals.toArray) (ho : Only (· = st) X Y) : SumI w0 st g p t' Y :=
  ⟨hb, h.bytes.only ho h.ne, Nat.lt_of_lt_of_le h.lt ho.size, h.ne, h.rest.trans' ho (fun i hi e => by have := h.st_new; omega), h.st_new⟩
theorem SumI.alloc {w0 : World} {st g : Nat} {p : List UInt8} {t : St} {X : World} (h : SumI w0 st g p t X) (o : Obj) : SumI w0 st g p t (X.alloc o) :=
  ⟨h.state.alloc o, h.bytes.only ((Only.refl NoneOf X).alloc o) (fun h => h), Nat.lt_of_lt_of_le h.lt ((Only.refl NoneOf X).alloc o).size, h.ne, h.rest.alloc o, h.st_new⟩
theorem sumI_own {w0 : World} {st g : Nat} {p : List UInt8} {m B : Nat} (hp : 0 < p.length) (hB : w0.heap.size ≤ B) : OwnFrom B (fun (pre : List (Fin m)) X => SumI w0 st g p (foldC st0 p pre) X) :=
  fun _ _ _ _ h hg hr => h.grown hp hg (fun r e => ⟨Nat.le_trans hB (hr r e).1, (hr r e).2⟩)
theorem new2_cell (W : World) (o : Obj) (t : TypeId) (cs : Array Value) (i : Nat) : ((W.alloc o).alloc (.cells cs t)).cell? ⟨W.heap.size + 1, i, none⟩ = cs[i]? := by
  have := (Blk.new (W.alloc o) t cs).cell i
  rwa [World.size_alloc] at this
theorem two_size (W : World) (o o' : Obj) : W.heap.size ≤ ((W.alloc o).alloc o').heap.size := by simp; omega
theorem Blk.put_far {w : World} {g : Nat} {t : TypeId} {cs : Array Value} (h : Blk w g t cs) {l : Nat} (hne : g ≠ l) (o : Obj) : Blk (w.putObj l o) g t cs := Eq.trans (World.putObj_heap_other (w := w) hne) h
/-- The bytes of a state. -/
def words (t : St) : List W := [t.a, t.b, t.c, t.d, t.e, t.f, t.g, t.h]
def hashL (t : St) : List UInt8 := (words t).flatMap be4
def outRow (t : St) (j : Nat) : List Value := (((words t).take j).flatMap be4).map bv ++ List.replicate (32 - 4 * j) (.int .u8 0)
theorem words_take (t : St) {j : Nat} (h : j < 8) : (words t).take (j + 1) = (words t).take j ++ [sw t j] := by
  rcases eight h with rfl | rfl | rfl | rfl | rfl | rfl | rfl | rfl <;> rfl
theorem be4_flat (L : List W) : (L.flatMap be4).length = 4 * L.length := by
  induction L with
  | nil => rfl
  | cons x l ih => rw [List.flatMap_cons, List.length_append, ih, be4_len, List.length_cons]; omega
theorem outRow_part (t : St) {j : Nat} (h : j ≤ 8) : ((((words t).take j).flatMap be4).map bv).length = 4 * j := by
  have : (words t).length = 8 := rfl
  rw [List.length_map, be4_flat, List.length_take, this]; omega
theorem outRow_len (t : St) {j : Nat} (h : j ≤ 8) : (outRow t j).length = 32 := by
  rw [outRow, List.length_append, outRow_part t h, List.length_replicate]; omega
theorem outRow_set (t : St) {j : Nat} (h : j < 8) : setMany (outRow t j) (4 * j) ((be4 (sw t j)).map bv) = outRow t (j + 1) := by
  have h1 := outRow_part t (Nat.le_of_lt h)
  have h4 : ((be4 (sw t j)).map bv).length = 4 := rfl
  rw [setMany_eq _ _ _ (by rw [outRow_len t (by omega), h4]; omega), outRow, h4, List.take_append_of_le_length (by omega), List.take_of_length_le (by omega)]
  rw [List.drop_append, List.drop_of_length_le (by omega), h1, outRow, words_take t h, List.flatMap_append, List.map_append]
  simp [List.drop_replicate]
  omega
theorem outRow_all (t : St) : outRow t 8 = (hashL t).map bv := by simp [outRow, hashL, words]
theorem shaL_eq (l : List UInt8) (m : Nat) (h : (padded l).length = 64 * m) : shaL l = hashL (comps st0 (padded l) m) := by
  have : (padded l).length / 64 = m := by omega
  simp only [shaL, this]
  simp [hashL, words]
end Go.Proofs.YtmgbcjjemlcfgaaGreatDoor
