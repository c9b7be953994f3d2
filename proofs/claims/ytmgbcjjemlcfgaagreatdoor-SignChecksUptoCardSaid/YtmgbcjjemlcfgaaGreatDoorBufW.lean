/- What is proved here: how a walk takes a string turned into bytes, and an append to a slice of bytes that the call has made; no function of the program. No conditions. -/
import Derived.Test.YtmgbcjjemlcfgaaGreatDoorBuf
namespace Go.Proofs.YtmgbcjjemlcfgaaGreatDoor
open Go.RowKit

theorem BytesAt.new (w : World) (t : TypeId) (l : List UInt8) : BytesAt (w.alloc (.cells (l.map bv).toArray t)) w.heap.size 0 l := fun j x hx => by
  rw [Nat.zero_add, (Blk.new w t _).cell, List.getElem?_toArray, List.getElem?_map, hx]
  rfl
theorem src_bytes {P : Program} {tx e : TypeId} (hk : P.underlying tx = some (.slice e)) {W : World} {g c n : Nat} {l : List UInt8} (h : BytesAt W g 0 l) (hn : l.length = n) : Src P 1 tx (.slice (some ⟨g, 0, none⟩) n c) l.length (l.map bv) W := by
  subst hn
  refine Src.ofSlice W hk ⟨g, 0, none⟩ l.length c (l.map bv) (by simp) (fun j u hu => ?_) (fun u hu => by obtain ⟨_, _, rfl⟩ := List.mem_map.1 hu; rfl)
  rw [List.getElem?_map] at hu
  cases hx : l[j]? with
  | none => rw [hx] at hu; cases hu
  | some x =>
    rw [hx] at hu
    cases hu
    rw [Addr.add_mid]
    exact h j x hx
theorem Buf.bytes {w : World} {e : TypeId} {g n c : Nat} {l : List UInt8} (h : Buf w e (.slice (some ⟨g, 0, none⟩) n c) l) : BytesAt w g 0 l := by
  obtain ⟨_, _, hv, _, _, _, hb⟩ := h.form
  simp only [Value.slice.injEq, Option.some.injEq, Addr.mk.injEq, and_true] at hv
  rw [hv.1]
  exact hb
theorem Buf.alloc {w : World} {e : TypeId} {v : Value} {l : List UInt8} (h : Buf w e v l) (o : Obj) : Buf (w.alloc o) e v l := h.only ((Only.refl NoneOf w).alloc o) (fun _ _ h => h)
/-- What a row that grows leaves alone: all that lay at first. -/
theorem only_grow {w w1 w2 : World} {g : Nat} {n c : Nat} (ho : Only NoneOf w w1) (hg : w1.grownBy w2 (Value.slice (some ⟨g, 0, none⟩) n c).ownBlock) (hge : w.heap.size ≤ g) : Only NoneOf w w2 :=
  ho.grown hg (fun k hk => .inr (by cases hk; exact hge))
section
variable {P : Program} {w : World} {ops : Array Oper} {rest : List Oper} {o : Oper} {a : Act} {Q : Exit → Act → World → Prop}
theorem wpList_convert_string (hgd : o.guard = none) (src dst e : TypeId) (x : Operand) (ho : o.op = .convert src dst x) (s : ByteArray) (hx : a.eval x = .string s)
    (hs : P.underlying src = some .string) (hd : P.underlying dst = some (.slice e)) (he : P.underlying e = some (.int .u8)) (hm : s.size ≤ maxLen) (B0 : World) (nB : Nat) (hB : B0.heap.size = nB) (ho0 : Only NoneOf B0 w)
    (h : ∀ g cap w', Hid (Buf w' e (.slice (some ⟨g, 0, none⟩) s.size cap) s.data.toList) → Hid (Only NoneOf B0 w') → nB ≤ g → g < w'.heap.size → s.size ≤ cap → cap ≤ maxLen → wpList P ops Q rest (a.put o.dst (.slice (some ⟨g, 0, none⟩) s.size cap)) w') : wpList P ops Q (o :: rest) a w := by
  refine wpList_plain hgd fun K hK => ?_
  unfold Oper.wp execOp
  simp only [ho, hx, Sem.run_bind, Result.andThen_ok, run_bytes_of_string w src dst e s hs hd he]
  have hb := Buf.of_string w e s hm
  exact hK _ _ (h _ _ _ hb (ho0.drew.alloc _) (by rw [← hB]; exact ho0.size) (by simp) (grownCap_ge _ _ _ _) (grownCap_le_maxLen _ _ _ _ hm))
theorem wpList_append_buf (hgd : o.guard = none) (s x : Operand) (t tx : TypeId) (ho : o.op = .call { callee := .builtin .append, args := #[s, x], argTypes := #[t, tx] })
    (e : TypeId) (i : TypeInfo) (ht : P.underlying t = some (.slice e)) (hi : P.info? e = some i) (hz : i.zero = some (.int .u8 0)) (hsz : i.size = 1) (hby : i.bytes = 1)
    (g0 q0 cap0 : Nat) (l : List UInt8) (hv : a.eval s = .slice (some ⟨g0, 0, none⟩) q0 cap0) (hb : Buf w e (.slice (some ⟨g0, 0, none⟩) q0 cap0) l) (B0 : World) (nB : Nat) (hB : B0.heap.size = nB) (ho0 : Only NoneOf B0 w) (hge : nB ≤ g0) (vx : Value) (hx : a.eval x = vx) (news : List UInt8) (hs : Src P 1 tx vx news.length (news.map bv) w) (hn : l.length + news.length ≤ 140737488355328)
    (L : List UInt8) (N : Nat) (hL : l ++ news = L) (hN : L.length = N)
    (h : ∀ g cap w', Hid (Buf w' e (.slice (some ⟨g, 0, none⟩) N cap) L) → Hid (Only NoneOf B0 w') → nB ≤ g → g < w'.heap.size → N ≤ cap → cap ≤ maxLen → wpList P ops Q rest (a.put o.dst (.slice (some ⟨g, 0, none⟩) N cap)) w') : wpList P ops Q (o :: rest) a w := by
  obtain ⟨v', w', hr, h1, h2, h3⟩ := run_append_buf (P := P) t tx o.type i ht hi hz hsz hby hb vx news hs hn
  obtain ⟨g, cap, rfl, hg, hc, hm, _⟩ := h1.form
  rw [hL, hN] at *
  refine Lib.wpList_append_run w hgd s x t tx ho _ vx hv hx _ w' hr (h g cap w' h1 (only_grow ho0 h2 (by omega)) ?_ hg hc hm)
  rcases h3 with h3 | h3
  · cases h3; exact hge
  · cases h3; rw [← hB]; exact ho0.size
theorem wpList_append_zeros (hgd : o.guard = none) (s x : Operand) (t tn : TypeId) (ho : o.op = .call { callee := .builtin .append, args := #[s, x], argTypes := #[t, tn] })
    (e : TypeId) (i : TypeInfo) (kn kq : IntKind) (ht : P.underlying t = some (.slice e)) (htn : P.underlying tn = some (.int kn)) (hi : P.info? e = some i) (hz : i.zero = some (.int .u8 0)) (hsz : i.size = 1) (hby : i.bytes = 1)
    (g0 q0 cap0 : Nat) (l : List UInt8) (hv : a.eval s = .slice (some ⟨g0, 0, none⟩) q0 cap0) (hb : Buf w e (.slice (some ⟨g0, 0, none⟩) q0 cap0) l) (B0 : World) (nB : Nat) (hB : B0.heap.size = nB) (ho0 : Only NoneOf B0 w) (hge : nB ≤ g0) (k : Nat) (hx : a.eval x = .int kq (k : Int)) (hn : l.length + k ≤ 140737488355328)
    (L : List UInt8) (N : Nat) (hL : l ++ List.replicate k 0 = L) (hN : L.length = N)
    (h : ∀ g cap w', Hid (Buf w' e (.slice (some ⟨g, 0, none⟩) N cap) L) → Hid (Only NoneOf B0 w') → nB ≤ g → g < w'.heap.size → N ≤ cap → cap ≤ maxLen → wpList P ops Q rest (a.put o.dst (.slice (some ⟨g, 0, none⟩) N cap)) w') : wpList P ops Q (o :: rest) a w := by
  obtain ⟨v', w', hr, h1, h2, h3⟩ := run_append_zeros_buf (P := P) t tn o.type i kn kq ht htn hi hz hsz hby hb k hn
  obtain ⟨g, cap, rfl, hg, hc, hm, _⟩ := h1.form
  rw [hL, hN] at *
  refine Lib.wpList_append_run w hgd s x t tn ho _ _ hv hx _ w' hr (h g cap w' h1 (only_grow ho0 h2 (by omega)) ?_ hg hc hm)
  rcases h3 with h3 | h3
  · cases h3; exact hge
  · cases h3; rw [← hB]; exact ho0.size
theorem wpList_copy_bytes (hgd : o.guard = none) (d s : Operand) (dT sT : TypeId) (ho : o.op = .call { callee := .builtin .copy, args := #[d, s], argTypes := #[dT, sT] })
    (elem : TypeId) (hu : P.underlying dT = some (.slice elem)) (hz : (P.info? elem).map (·.size) = some 1)
    (b off dLen dCap : Nat) (ad : Addr) (sLen sCap : Nat) (hd : a.eval d = .slice (some ⟨b, off, none⟩) dLen dCap) (hsv : a.eval s = .slice (some ad) sLen sCap)
    (cs : List Value) (hn : cs.length = Nat.min sLen dLen) (hsrc : ∀ j v, cs[j]? = some v → w.cell? (ad.add j) = some v) (hth : w.there b off cs.length) (h1 : ∀ v ∈ cs, v.oneCell' = true)
    (h : wpList P ops Q rest (a.put o.dst (goInt cs.length)) (w.setCells b off cs)) : wpList P ops Q (o :: rest) a w := by
  refine wpList_plain hgd fun K hK => ?_
  have hrun := run_copy_cells (P := P) w dT sT o.type elem b off dLen dCap ad sLen sCap cs hu hz hn hsrc (fun j hj => (hth j hj).1) (fun j hj => (hth j hj).2) h1
  unfold Oper.wp
  simp [execOp, ho, resolve, invoke, builtin, hd, hsv, hrun, Result.andThen]
  exact hK _ _ h
theorem wpList_convert_back (hgd : o.guard = none) (src dst e : TypeId) (x : Operand) (ho : o.op = .convert src dst x) (g of n cap : Nat) (hx : a.eval x = .slice (some ⟨g, of, none⟩) n cap) (l : List UInt8) (hl : l.length = n) (hb : BytesAt w g of l)
    (hs : P.underlying src = some (.slice e)) (he : P.underlying e = some (.int .u8)) (hd : P.underlying dst = some .string)
    (h : wpList P ops Q rest (a.put o.dst (.string ⟨l.toArray⟩)) w) : wpList P ops Q (o :: rest) a w := by
  subst hl
  refine wpList_plain hgd fun K hK => ?_
  have hr := run_convert_bytes_back (P := P) w src dst e ⟨g, of, none⟩ cap l hs he hd (fun j hj => by
    rw [Addr.add_mid]
    exact hb j _ (List.getElem?_eq_getElem hj))
  unfold Oper.wp execOp
  simp only [ho, hx, Sem.run_bind, Result.andThen_ok, hr]
  exact hK _ _ h
theorem bytesAt_one (w : World) (t : TypeId) (v : Int) (b : UInt8) (hv : v = (b.toNat : Int)) : BytesAt (w.alloc (.cells #[.int .u8 v] t)) w.heap.size 0 [b] := by
  subst hv
  exact BytesAt.new w t [b]
theorem step_copy_bytes {K : Act → World → Prop} {E : Prop} (hgd : o.guard = none) (d s : Operand) (dT sT : TypeId) (ho : o.op = .call { callee := .builtin .copy, args := #[d, s], argTypes := #[dT, sT] })
    (elem : TypeId) (hu : P.underlying dT = some (.slice elem)) (hz : (P.info? elem).map (·.size) = some 1)
    (b off dLen dCap : Nat) (ad : Addr) (sLen sCap : Nat) (hd : a.eval d = .slice (some ⟨b, off, none⟩) dLen dCap) (hsv : a.eval s = .slice (some ad) sLen sCap)
    (cs : List Value) (hn : cs.length = Nat.min sLen dLen) (hsrc : ∀ j v, cs[j]? = some v → w.cell? (ad.add j) = some v) (hth : w.there b off cs.length) (h1 : ∀ v ∈ cs, v.oneCell' = true)
    (h : K (a.put o.dst (goInt cs.length)) (w.setCells b off cs)) : if Region.wanted o (yielded ops a.tmps) = true then Oper.wp P o a w K Q else E := by
  have hw : Region.wanted o (yielded ops a.tmps) = true := by simp [Region.wanted, hgd]
  rw [if_pos hw]
  have hrun := run_copy_cells (P := P) w dT sT o.type elem b off dLen dCap ad sLen sCap cs hu hz hn hsrc (fun j hj => (hth j hj).1) (fun j hj => (hth j hj).2) h1
  unfold Oper.wp
  simp [execOp, ho, resolve, invoke, builtin, hd, hsv, hrun, Result.andThen]
  exact h
theorem bvs_one (l : List UInt8) : ∀ v ∈ l.map bv, v.oneCell' = true := fun v hv => by obtain ⟨_, _, rfl⟩ := List.mem_map.1 hv; rfl
theorem bytes_src {w : World} {g o : Nat} {l : List UInt8} (h : BytesAt w g o l) : ∀ j v, (l.map bv)[j]? = some v → w.cell? ((⟨g, o, none⟩ : Addr).add j) = some v := fun j u hu => by
  rw [List.getElem?_map] at hu
  cases hx : l[j]? with
  | none => rw [hx] at hu; cases hu
  | some x =>
    rw [hx] at hu
    cases hu
    rw [Addr.add_mid]
    exact h j x hx
end
end Go.Proofs.YtmgbcjjemlcfgaaGreatDoor
