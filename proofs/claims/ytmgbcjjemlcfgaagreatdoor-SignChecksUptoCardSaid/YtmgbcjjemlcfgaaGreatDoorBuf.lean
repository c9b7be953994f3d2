/- What is proved here: a slice of bytes that the call has made (also out of a string), and what append lays behind it; no function of the program. No conditions. -/
import Derived.Test.YtmgbcjjemlcfgaaGreatDoorMem
import Derived.Deep.AppendSrc
import Derived.Lib.AppendZerosOnto
import Derived.Laws.IdiomStrings
namespace Go.Proofs.YtmgbcjjemlcfgaaGreatDoor
open Go.RowKit

/-- The slice value v lies in a block of bytes of its own, from its first cell on; its bytes are l. -/
def Buf (w : World) (e : TypeId) (v : Value) (l : List UInt8) : Prop :=
  ∃ (g cap : Nat) (cur : Array Value) (lo hi : Nat), v = .slice (some ⟨g, 0, none⟩) l.length cap ∧ w.heap[g]? = some (.cells cur e (lo, hi)) ∧ cur.size = cap ∧ l.length ≤ cap ∧ cap ≤ maxLen ∧ (cap ≤ lo ∨ hi = 0) ∧ cur.toList.take l.length = l.map bv

section
variable {w w' : World} {e : TypeId} {v : Value} {l : List UInt8}
theorem Buf.form (h : Buf w e v l) : ∃ g cap, v = .slice (some ⟨g, 0, none⟩) l.length cap ∧ g < w.heap.size ∧ l.length ≤ cap ∧ cap ≤ maxLen ∧ BytesAt w g 0 l := by
  obtain ⟨g, cap, cur, lo, hi, rfl, hh, hcs, hc, hm, _, ht⟩ := h
  refine ⟨g, cap, rfl, (Array.getElem?_eq_some_iff.1 hh).1, hc, hm, fun j x hx => ?_⟩
  have hj : j < l.length := (List.getElem?_eq_some_iff.1 hx).1
  have h1 : (cur.toList.take l.length)[j]? = some (bv x) := by rw [ht, List.getElem?_map, hx]; rfl
  rw [List.getElem?_take, if_pos hj] at h1
  rw [Nat.zero_add]
  unfold World.cell?
  simp only [hh]
  simpa using h1
theorem Buf.only {S : Nat → Prop} (h : Buf w e v l) (ho : Only S w w') (hn : ∀ k, v.ownBlock = some k → ¬ S k) : Buf w' e v l := by
  obtain ⟨g, cap, cur, lo, hi, rfl, hh, hr⟩ := h
  exact ⟨g, cap, cur, lo, hi, rfl, (ho.block g (Array.getElem?_eq_some_iff.1 hh).1 (hn g rfl)).trans hh, hr⟩
theorem Buf.drewN (h : Buf w e v l) (n : Nat) : Buf (w.drewN n) e v l := h
theorem Buf.lt (h : Buf w e v l) {k : Nat} (hk : v.ownBlock = some k) : k < w.heap.size := by
  obtain ⟨g, cap, cur, lo, hi, rfl, hh, _⟩ := h
  cases hk
  exact (Array.getElem?_eq_some_iff.1 hh).1
theorem byteCells_eq (s : ByteArray) : byteCells s = s.data.toList.map bv := rfl
theorem Buf.of_string (w : World) (e : TypeId) (s : ByteArray) (hs : s.size ≤ maxLen) :
    Buf (w.drew.alloc (.cells (bytesRow s (grownCap w s.size 0 e)) e ((bytesRow s (grownCap w s.size 0 e)).size, (bytesRow s (grownCap w s.size 0 e)).size + 1))) e (.slice (some ⟨w.heap.size, 0, none⟩) s.size (grownCap w s.size 0 e)) s.data.toList := by
  have hge := grownCap_ge w s.size 0 e
  have hsz : (bytesRow s (grownCap w s.size 0 e)).size = grownCap w s.size 0 e := by
    simp only [bytesRow, Array.size_append, Array.size_map, Array.size_replicate]
    have : s.data.size = s.size := rfl
    omega
  have hl : s.data.toList.length = s.size := by simp
  refine ⟨w.heap.size, grownCap w s.size 0 e, _, _, _, ?_, heap_alloc_new w.drew _, hsz, by rw [hl]; exact hge, grownCap_le_maxLen w _ _ _ hs, .inl (by rw [hsz]; exact Nat.le_refl _), ?_⟩
  · rw [hl]
  · simp only [bytesRow, Array.toList_append, Array.toList_map]
    rw [List.take_append_of_le_length (by simp), List.take_of_length_le (by simp)]
    rfl
theorem zero_u8 (n : Nat) : Builtin.zeroCells (Value.int .u8 0).cells n = ((List.replicate n (0 : UInt8)).map bv).toArray := by
  apply Array.ext'
  apply List.ext_getElem?
  intro i
  simp only [Builtin.zeroCells, Value.cells]
  by_cases h : i < n
  · simp [h, Nat.mod_one, bv]
  · simp [h]
end

section
variable {P : Program} {w : World} {e : TypeId} {v : Value} {l : List UInt8}
theorem Buf.firsts (h : Buf w e v l) {cap : Nat} {b : Option Addr} (_hv : v = .slice b l.length cap) : (Builtin.firstCells 1 l.length v).run P w.drew = .ok (l.map bv).toArray w.drew := by
  obtain ⟨g, cap', hv', _, _, _, hb⟩ := h.form
  rw [hv']
  refine run_firstCells_some (P := P) w.drew 1 l.length ⟨g, 0, none⟩ _ _ (l.map bv) (by simp) (fun j u hu => ?_)
  rw [List.getElem?_map] at hu
  cases hx : l[j]? with
  | none => rw [hx] at hu; cases hu
  | some x =>
    rw [hx] at hu
    cases hu
    rw [Addr.add_mid]
    exact hb j x hx
/-- What lies behind an append with room. -/
theorem Buf.stored (h : Buf w e v l) (news : List UInt8) {g cap : Nat} (hv : v = .slice (some ⟨g, 0, none⟩) l.length cap) (hroom : l.length + news.length ≤ cap) :
    Buf (w.setCells g (0 + l.length * 1) (news.map bv)) e (.slice (some ⟨g, 0, none⟩) (l.length + news.length) cap) (l ++ news) ∧ w.there g (0 + l.length * 1) news.length := by
  obtain ⟨g', cap', cur, lo, hi, hv', hh, hcs, hc, hm, hz, ht⟩ := h
  rw [hv] at hv'
  simp only [Value.slice.injEq, Option.some.injEq, Addr.mk.injEq, and_true, true_and] at hv'
  obtain ⟨rfl, rfl⟩ := hv'
  rw [Nat.zero_add, Nat.mul_one]
  have hheap : ∀ (vs : List Value) (o : Nat) (W : World) (xs : List Value), W.heap[g]? = some (.cells xs.toArray e (lo, hi)) → (W.setCells g o vs).heap[g]? = some (.cells (setMany xs o vs).toArray e (lo, hi)) := by
    intro vs
    induction vs with
    | nil => intro o W xs h; exact h
    | cons u r ih =>
      intro o W xs h
      refine ih (o + 1) (W.setCell ⟨g, o, none⟩ u) (xs.set o u) ?_
      simp [World.setCell, Array.getElem?_modify, h]
  have h1 := hheap (news.map bv) l.length w cur.toList (by simpa using hh)
  have hlen : l.length + (news.map bv).length ≤ cur.toList.length := by simp; omega
  rw [setMany_eq _ _ _ hlen] at h1
  refine ⟨⟨g, cap, _, lo, hi, by simp, h1, by simp; omega, by simp; omega, hm, hz, ?_⟩, fun j hj => ⟨?_, ?_⟩⟩
  · rw [List.toList_toArray, ht, List.append_assoc, ← List.append_assoc, ← List.map_append, List.take_append_of_le_length (by simp), List.take_of_length_le (by simp)]
  · unfold World.cell?
    simp only [hh]
    rw [if_neg (by simp), Array.getElem?_eq_getElem (by omega)]
    rfl
  · unfold World.frozen?
    simp only [hh]
    rcases hz with hz | hz
    · simp; omega
    · simp [hz]
theorem Buf.grown (_h : Buf w e v l) (news : List UInt8) (cap : Nat) (hcap : l.length + news.length ≤ cap) (hm : cap ≤ maxLen) :
    Buf (w.drew.alloc (.cells (((l.map bv ++ news.map bv).toArray) ++ Builtin.zeroCells (Value.int .u8 0).cells (cap - (l.length + news.length))) e)) e (.slice (some ⟨w.heap.size, 0, none⟩) (l.length + news.length) cap) (l ++ news) := by
  refine ⟨w.heap.size, cap, _, 0, 0, by simp, heap_alloc_new w.drew _, by rw [zero_u8]; simp; omega, by simp; omega, hm, .inr rfl, ?_⟩
  rw [Array.toList_append, List.toList_toArray, List.take_append_of_le_length (by simp), List.take_of_length_le (by simp), List.map_append]
theorem run_append_buf (t tx ty : TypeId) (i : TypeInfo) (ht : P.underlying t = some (.slice e)) (hi : P.info? e = some i) (hz : i.zero = some (.int .u8 0)) (hsz : i.size = 1) (hby : i.bytes = 1)
    (hb : Buf w e v l) (x : Value) (news : List UInt8) (hs : Src P 1 tx x news.length (news.map bv) w) (hn : l.length + news.length ≤ 140737488355328) :
    ∃ v' w', (Builtin.append_ #[t, tx] ty #[v, x]).run P w = .ok v' w' ∧ Buf w' e v' (l ++ news) ∧ w.grownBy w' v.ownBlock ∧ (v'.ownBlock = v.ownBlock ∨ v'.ownBlock = some w.heap.size) := by
  obtain ⟨g, cap, hv, hlt, hc, hm, hbt⟩ := hb.form
  have hs' : Src P i.size tx x news.length (news.map bv) w := by rw [hsz]; exact hs
  by_cases hroom : l.length + news.length ≤ cap
  · obtain ⟨h1, h2⟩ := hb.stored news hv hroom
    refine ⟨_, _, ?_, h1, ?_, .inl (by rw [hv]; rfl)⟩
    · rw [hv]
      have := run_append_room_src (P := P) w t tx ty e i ht hi g 0 l.length cap x news.length _ hs' hroom
        (fun j hj => by rw [hsz]; exact (h2 j (by simpa using hj)).1) (fun j hj => by rw [hsz]; exact (h2 j (by simpa using hj)).2)
      rw [hsz] at this
      exact this
    · have := only_setCells (Only.refl (fun k => v.ownBlock = some k) w) g (0 + l.length * 1) (.inl (by rw [hv]; rfl)) (news.map bv)
      exact this.grownBy (fun k hk => hk.symm)
  · have hr := run_append_grow_src (P := P) w t tx ty e i (.int .u8 0) ht hi hz (some ⟨g, 0, none⟩) l.length cap (l.map bv) (by rw [hsz, ← hv]; exact hb.firsts hv) x news.length _ hs' (by omega) (by omega) (growslice_fits (by omega) (by rw [hby]; omega))
    refine ⟨_, _, by rw [hv]; exact hr, hb.grown news _ (grownCap_ge _ _ _ _) (grownCap_le_maxLen _ _ _ _ (by unfold maxLen; omega)), ?_, .inr rfl⟩
    exact ⟨rfl, rfl, rfl, by simp, fun k hk _ => Below.heap_alloc w.drew _ k hk⟩
/-- 'append(v, make([]byte, k)...)'. -/
theorem run_append_zeros_buf (t tn ty : TypeId) (i : TypeInfo) (kn kq : IntKind) (ht : P.underlying t = some (.slice e)) (htn : P.underlying tn = some (.int kn)) (hi : P.info? e = some i) (hz : i.zero = some (.int .u8 0)) (hsz : i.size = 1) (hby : i.bytes = 1)
    (hb : Buf w e v l) (k : Nat) (hn : l.length + k ≤ 140737488355328) :
    ∃ v' w', (Builtin.append_ #[t, tn] ty #[v, .int kq (k : Int)]).run P w = .ok v' w' ∧ Buf w' e v' (l ++ List.replicate k 0) ∧ w.grownBy w' v.ownBlock ∧ (v'.ownBlock = v.ownBlock ∨ v'.ownBlock = some w.heap.size) := by
  obtain ⟨g, cap, hv, hlt, hc, hm, hbt⟩ := hb.form
  have hlk : (List.replicate k (0 : UInt8)).length = k := by simp
  have hw : IntKind.i64.wrap (k : Int) = k := by rw [IntKind.wrap_i64]; omega
  have h48i : ¬ (281474976710656 < (k : Int)) := by omega
  have hneg : ¬ ((k : Int) < 0) := by omega
  by_cases hroom : l.length + k ≤ cap
  · obtain ⟨h1, h2⟩ := hb.stored (List.replicate k 0) hv (by rw [hlk]; exact hroom)
    rw [hlk] at h1 h2
    refine ⟨_, _, ?_, h1, ?_, .inl (by rw [hv]; rfl)⟩
    · rw [hv]
      have hst := run_storeCells_cells (P := P) g (0 + l.length * 1) ((List.replicate k (0 : UInt8)).map bv) 0 w (fun j hj => by rw [Nat.add_zero]; exact (h2 j (by simpa using hj)).1) (fun j hj => by rw [Nat.add_zero]; exact (h2 j (by simpa using hj)).2) (fun u hu => by obtain ⟨_, _, rfl⟩ := List.mem_map.1 hu; rfl)
      simp only [Nat.add_zero, Nat.zero_add, Nat.mul_one] at hst ⊢
      by_cases hk : k = 0
      · subst hk
        have hw0 : IntKind.i64.wrap 0 = 0 := rfl
        simp [Builtin.append_, run_underlying ht, run_underlying htn, sizeOf, typeInfo, zeroValue, hi, hz, hby, asInt, asIntOf, hw0, hc, storeCells] at hst ⊢
        rfl
      · simp [Builtin.append_, run_underlying ht, run_underlying htn, sizeOf, typeInfo, zeroValue, hi, hz, hsz, hby, asInt, asIntOf, hw, hneg, h48i, hroom, hk, Addr.add_lit, zero_u8]
        simp at hst
        simp [hst]
    · have := only_setCells (Only.refl (fun k => v.ownBlock = some k) w) g (0 + l.length * 1) (.inl (by rw [hv]; rfl)) ((List.replicate k (0 : UInt8)).map bv)
      exact this.grownBy (fun k hk => hk.symm)
  · have hr := Lib.run_append_grow_zeros (P := P) w t tn ty e i (.int .u8 0) kq kn ht htn hi hz (some ⟨g, 0, none⟩) l.length cap (l.map bv) (by rw [hsz, ← hv]; exact hb.firsts hv) k (by omega) (by omega) (by omega) (by omega) (by rw [hby]; omega) (growslice_fits (by omega) (by rw [hby]; omega))
    have h2 := hb.grown (List.replicate k 0) (grownCap w (l.length + k) cap e) (by rw [hlk]; exact grownCap_ge _ _ _ _) (grownCap_le_maxLen _ _ _ _ (by unfold maxLen; omega))
    rw [hlk] at h2
    have e1 : (l.map bv).toArray ++ ((List.replicate k (0 : UInt8)).map bv).toArray = (l.map bv ++ (List.replicate k (0 : UInt8)).map bv).toArray := Array.ext' (by simp)
    rw [zero_u8 k, ← hv, e1] at hr
    refine ⟨_, _, hr, ?_, ⟨rfl, rfl, rfl, by simp, fun k hk _ => Below.heap_alloc w.drew _ k hk⟩, .inr rfl⟩
    exact h2
end
end Go.Proofs.YtmgbcjjemlcfgaaGreatDoor
