/- What is proved here: several parts. what stands behind each part of an event's code, in plain Lean; no program in sight. No conditions. · an event that is built part by part, in plain Lean; no program in sight. No conditions. · reading a hash digit by digit, in plain Lean; no program in sight. No conditions. · what a reader of codes finds part by part, in plain Lean; no program in sight. No conditions. -/
import Derived.Test.YtclpebgjmgfigaaGreatDoorEvA
import Derived.Test.YtclpebgjmgfigaaGreatDoorNumV
namespace Go.Proofs.YtclpebgjmgfigaaGreatDoor
open Go.RowKit Go.Shelf
/-- Numbers with a blank behind each. -/
def numsC (l : List Int) (r : List UInt8) : List UInt8 := l.foldr (fun n t => Lib.itoa n ++ 32 :: t) r
theorem numsC_cons (n : Int) (l : List Int) (r : List UInt8) : numsC (n :: l) r = Lib.itoa n ++ 32 :: numsC l r := rfl
theorem numsC_of : ∀ (l : List Int) (r : List UInt8), l ≠ [] → numsL l ++ 32 :: r = numsC l r
  | [], _, h => absurd rfl h
  | [n], r, _ => rfl
  | n :: m :: l, r, _ => by
    have h := numsC_of (m :: l) r (by simp)
    rw [numsC_cons, ← h]
    simp [numsL]
/-- What stands behind the name's length, its name, and so on back to the whole code. -/
def tlT (e : Ev) : List UInt8 := Lib.itoa e.text.data.toList.length ++ 58 :: e.text.data.toList
def tlN (e : Ev) : List UInt8 := e.name.data.toList ++ 32 :: tlT e
def tlQ (e : Ev) : List UInt8 := Lib.itoa e.name.data.toList.length ++ 58 :: tlN e
def tlH (e : Ev) : List UInt8 := hexL e.prev ++ 32 :: tlQ e
def tlK (e : Ev) (k : Nat) : List UInt8 := numsC (e.nums.drop k) (tlH e)
def evWl : List UInt8 := [101, 118, 101, 110, 116]
def tlE (e : Ev) : List UInt8 := evWl ++ 32 :: tlK e 0
def tlS (e : Ev) : List UInt8 := Lib.itoa e.s ++ 32 :: tlE e
theorem evCode_tl (e : Ev) : evCode e = Lib.itoa e.r ++ 32 :: tlS e := by
  unfold evCode evText
  have hq : quoL e.name.data.toList ++ 32 :: quoL e.text.data.toList = tlQ e := by simp [quoL, tlQ, tlN, tlT]
  rw [numsC_of [e.r, e.s] _ (by simp), numsC_cons, numsC_cons, numsC_of e.nums _ (by simp [Ev.nums]), hq]
  rfl
theorem nums_len (e : Ev) : e.nums.length = 10 := rfl
theorem nums_in {e : Ev} (h : e.Ok) : ∀ n ∈ e.nums, In n := by
  intro x hx
  simp only [Ev.nums, List.mem_cons, List.not_mem_nil, or_false] at hx
  rcases hx with rfl | rfl | rfl | rfl | rfl | rfl | rfl | rfl | rfl | rfl <;> first | exact h.seq | exact h.kind | exact h.who | exact h.time | exact h.bidder | exact h.lot | exact h.n | exact h.other | exact h.sx | exact h.sy
theorem tlK_step {e : Ev} {k : Nat} {n : Int} (h : e.nums[k]? = some n) : tlK e k = Lib.itoa n ++ 32 :: tlK e (k + 1) := by
  unfold tlK
  obtain ⟨hk, hn⟩ := List.getElem?_eq_some_iff.1 h
  rw [List.drop_eq_getElem_cons hk, numsC_cons, hn]
theorem tlK_ten (e : Ev) : tlK e 10 = tlH e := rfl
/-- A number stands at a text's beginning, and a byte behind it. -/
def NumAt (l : List UInt8) (c : UInt8) (m : Int) (t : List UInt8) : Prop := In m ∧ l = Lib.itoa m ++ c :: t
theorem NumAt.inj {l t t' : List UInt8} {c : UInt8} {m m' : Int} (hc : c ≠ 45 ∧ (c.toNat < 48 ∨ 57 < c.toNat)) (h : NumAt l c m t) (k : NumAt l c m' t') : m = m' ∧ t = t' :=
  num_sep h.1 k.1 hc (h.2.symm.trans k.2)
/-- A word stands at a text's beginning, and a byte behind it that the word lacks. -/
def WordAt (l : List UInt8) (c : UInt8) (x t : List UInt8) : Prop := (∀ d ∈ x, d ≠ c) ∧ l = x ++ c :: t
theorem NumAt.word {l t : List UInt8} {c : UInt8} {m : Int} (hc : c ≠ 45 ∧ (c.toNat < 48 ∨ 57 < c.toNat)) (h : NumAt l c m t) : WordAt l c (Lib.itoa m) t := ⟨itoa_ne h.1 hc, h.2⟩
theorem hexC_ne {n : Nat} (h : n < 16) : hexC n ≠ 32 := fun e => by
  have h1 := congrArg UInt8.toNat e
  rw [hexC_nat h] at h1
  have : (32 : UInt8).toNat = 32 := rfl
  split at h1 <;> omega
theorem hexL_ne : ∀ (l : List UInt8), ∀ d ∈ hexL l, d ≠ 32
  | [], d, h => by cases h
  | c :: l, d, h => by
    have lc := c.toNat_lt
    rcases List.mem_cons.1 h with rfl | h
    · exact hexC_ne (by omega)
    · rcases List.mem_cons.1 h with rfl | h
      · exact hexC_ne (by omega)
      · exact hexL_ne l d h
theorem word_event : ∀ d ∈ evWl, d ≠ (32 : UInt8) := by decide
/-! ### Reading digits with their sign -/
def upS (l : List UInt8) (q : Nat) : Int := if beg l = 0 then IntKind.i64.wrap (((l.drop 0).take (q - 0)).foldl dstep 0 : Nat) else IntKind.i64.wrap (-(((l.drop 1).take (q - 1)).foldl dstep 0 : Nat) : Int)
theorem wrap_plus (x d : Int) : IntKind.i64.wrap (IntKind.i64.wrap (10 * IntKind.i64.wrap x) + d) = IntKind.i64.wrap (x * 10 + d) := by
  rw [wrap_i, wrap_i, wrap_i, wrap_i]
  omega
theorem upS_in (l : List UInt8) (q : Nat) : In (upS l q) := by unfold upS; split <;> exact wrap_in _
theorem upS_zero {l : List UInt8} : upS l (beg l) = 0 := by
  unfold upS
  rcases beg_le l with h | h
  · rw [if_pos h, h]; rfl
  · rw [if_neg (by omega), h]; rfl
theorem upS_plus {l : List UInt8} {q : Nat} {c : UInt8} (hb : beg l = 0) (hc : l[q]? = some c) (hd : digit c) : IntKind.i64.wrap (IntKind.i64.wrap (10 * upS l q) + ((c.toNat : Int) - 48)) = upS l (q + 1) := by
  unfold upS
  rw [if_pos hb, if_pos hb, List.drop_zero, Nat.sub_zero, Nat.sub_zero, List.take_add_one, hc, Option.toList_some, fold_snoc, wrap_plus]
  congr 1
  unfold digit at hd
  omega
theorem upS_minus {l : List UInt8} {q : Nat} {c : UInt8} (hb : beg l = 1) (hq : 1 ≤ q) (hc : l[q]? = some c) (hd : digit c) : IntKind.i64.wrap (IntKind.i64.wrap (10 * upS l q) - ((c.toNat : Int) - 48)) = upS l (q + 1) := by
  have h := upTo_step (l := l) (b := 1) hq hc hd
  unfold upTo at h
  unfold upS
  rw [if_neg (by omega), if_neg (by omega)]
  exact h
theorem upS_all {l : List UInt8} : upS l l.length = numV l := by
  unfold upS numV
  rcases beg_le l with h | h
  · rw [if_pos h, if_pos h, h, Nat.sub_zero, List.take_of_length_le (by simp)]
  · rw [if_neg (by omega), if_neg (by omega), h, List.take_of_length_le (by simp)]
/-! ### Reading a hash -/
/-- The bytes found when i digits have been read. -/
def hexUp (h : List UInt8) (i : Nat) : List UInt8 := h.take (i / 2) ++ (if i % 2 = 1 then [UInt8.ofNat ((h.getD (i / 2) 0).toNat / 16)] else []) ++ List.replicate (32 - (i + 1) / 2) 0
theorem hexUp_len {h : List UInt8} (hl : h.length = 32) {i : Nat} (hi : i ≤ 64) : (hexUp h i).length = 32 := by
  unfold hexUp
  rw [List.length_append, List.length_append, List.length_take, List.length_replicate]
  split
  · simp only [List.length_singleton]; omega
  · simp only [List.length_nil]; omega
theorem hexUp_zero (h : List UInt8) : hexUp h 0 = List.replicate 32 0 := by simp [hexUp]
theorem hexUp_all {h : List UInt8} (hl : h.length = 32) : hexUp h 64 = h := by
  simp [hexUp, ← hl]
theorem hexL_get : ∀ (h : List UInt8) (i : Nat) (c : UInt8), h[i]? = some c → (hexL h)[2 * i]? = some (hexC (c.toNat / 16)) ∧ (hexL h)[2 * i + 1]? = some (hexC (c.toNat % 16))
  | [], i, c, e => by simp at e
  | d :: l, 0, c, e => by
    cases e
    exact ⟨rfl, rfl⟩
  | d :: l, i + 1, c, e => by
    have h := hexL_get l i c (by simpa using e)
    rw [show 2 * (i + 1) = 2 * i + 1 + 1 by omega]
    exact h
theorem hexUp_even {h : List UInt8} (hl : h.length = 32) {j : Nat} (hj : j < 32) {c : UInt8} (hc : h[j]? = some c) : (hexUp h (2 * j))[j]? = some 0 ∧ (hexUp h (2 * j)).set j (UInt8.ofNat (c.toNat / 16)) = hexUp h (2 * j + 1) := by
  have e1 : 2 * j / 2 = j := by omega
  have e2 : (2 * j + 1) / 2 = j := by omega
  have e3 : (2 * j + 1 + 1) / 2 = j + 1 := by omega
  have e4 : ¬ 2 * j % 2 = 1 := by omega
  have e5 : (2 * j + 1) % 2 = 1 := by omega
  have hg : h.getD j 0 = c := by rw [List.getD_eq_getElem?_getD, hc]; rfl
  have ht : (h.take j).length = j := by rw [List.length_take]; omega
  unfold hexUp
  rw [e1, e2, e3, if_neg e4, if_pos e5, List.append_nil, hg, show 32 - j = (32 - (j + 1)) + 1 by omega, List.replicate_succ]
  refine ⟨?_, ?_⟩
  · rw [List.getElem?_append_right (by omega), ht, Nat.sub_self]; rfl
  · rw [List.set_append_right _ _ (by omega), ht, Nat.sub_self, List.set_cons_zero, List.append_assoc, List.singleton_append]
theorem hexUp_odd {h : List UInt8} (hl : h.length = 32) {j : Nat} (hj : j < 32) {c : UInt8} (hc : h[j]? = some c) : (hexUp h (2 * j + 1))[j]? = some (UInt8.ofNat (c.toNat / 16)) ∧ (hexUp h (2 * j + 1)).set j c = hexUp h (2 * j + 2) := by
  have e2 : (2 * j + 1) / 2 = j := by omega
  have e3 : (2 * j + 1 + 1) / 2 = j + 1 := by omega
  have e5 : (2 * j + 1) % 2 = 1 := by omega
  have e7 : ¬ (2 * j + 2) % 2 = 1 := by omega
  have e8 : (2 * j + 2 + 1) / 2 = j + 1 := by omega
  have hg : h.getD j 0 = c := by rw [List.getD_eq_getElem?_getD, hc]; rfl
  have ht : (h.take j).length = j := by rw [List.length_take]; omega
  unfold hexUp
  rw [e2, e3, if_pos e5, if_neg e7, e8, hg, List.append_nil, List.take_add_one, hc]
  refine ⟨?_, ?_⟩
  · rw [List.append_assoc, List.getElem?_append_right (by omega), ht, Nat.sub_self]; rfl
  · rw [List.append_assoc, List.set_append_right _ _ (by omega), ht, Nat.sub_self, List.singleton_append, List.set_cons_zero, List.append_assoc]
    rfl
theorem nib_join (c : UInt8) : UInt8.ofNat (c.toNat / 16) * 16 + UInt8.ofNat (c.toNat % 16) = c := by
  have lc := c.toNat_lt
  apply UInt8.toNat_inj.1
  rw [UInt8.toNat_add, UInt8.toNat_mul, UInt8.toNat_ofNat', UInt8.toNat_ofNat']
  have : (16 : UInt8).toNat = 16 := rfl
  rw [this]
  omega
end Go.Proofs.YtclpebgjmgfigaaGreatDoor
namespace Go.Proofs.YtclpebgjmgfigaaGreatDoor
open Go.RowKit Go.Shelf
/-- An event with another number at a place. -/
def Ev.setN (e : Ev) (k : Nat) (n : Int) : Ev :=
  match k with
  | 0 => { e with seq := n }
  | 1 => { e with kind := n }
  | 2 => { e with who := n }
  | 3 => { e with time := n }
  | 4 => { e with bidder := n }
  | 5 => { e with lot := n }
  | 6 => { e with n := n }
  | 7 => { e with other := n }
  | 8 => { e with sx := n }
  | 9 => { e with sy := n }
  | _ => e
theorem setN_nums (e : Ev) (k : Nat) (n : Int) : (e.setN k n).nums = e.nums.set k n := by
  match k with
  | 0 => rfl
  | 1 => rfl
  | 2 => rfl
  | 3 => rfl
  | 4 => rfl
  | 5 => rfl
  | 6 => rfl
  | 7 => rfl
  | 8 => rfl
  | 9 => rfl
  | k + 10 => rfl
theorem setN_rest (e : Ev) (k : Nat) (n : Int) : (e.setN k n).r = e.r ∧ (e.setN k n).s = e.s ∧ (e.setN k n).prev = e.prev ∧ (e.setN k n).name = e.name ∧ (e.setN k n).text = e.text := by
  unfold Ev.setN
  split <;> exact ⟨rfl, rfl, rfl, rfl, rfl⟩
theorem setN_ok {e : Ev} (h : e.Ok) (k : Nat) {n : Int} (hn : In n) : (e.setN k n).Ok := by
  obtain ⟨h1, h2, h3, h4, h5, h6, h7, h8, h9, h10, h11, h12, h13⟩ := h
  unfold Ev.setN
  split <;> constructor <;> assumption
/-- The signature and the first k numbers agree. -/
def Agrees (k : Nat) (e f : Ev) : Prop := e.r = f.r ∧ e.s = f.s ∧ e.nums.take k = f.nums.take k
theorem Agrees.step {k : Nat} {e f : Ev} {n : Int} (h : Agrees k e f) (hf : f.nums[k]? = some n) : Agrees (k + 1) (e.setN k n) f := by
  obtain ⟨h1, h2, h3⟩ := h
  obtain ⟨a, b, _⟩ := setN_rest e k n
  have hk : k < 10 := (List.getElem?_eq_some_iff.1 hf).1
  refine ⟨by rw [a, h1], by rw [b, h2], ?_⟩
  rw [setN_nums, List.take_add_one, List.take_add_one, hf, List.getElem?_set_self (show k < e.nums.length from hk), List.take_set_of_le (Nat.le_refl _), h3]
theorem Agrees.all {e f : Ev} (h : Agrees 10 e f) (h1 : e.prev = f.prev) (h2 : e.name = f.name) (h3 : e.text = f.text) : e = f := by
  obtain ⟨a, b, c⟩ := h
  rw [List.take_of_length_le (show e.nums.length ≤ 10 from Nat.le_refl _), List.take_of_length_le (show f.nums.length ≤ 10 from Nat.le_refl _)] at c
  simp only [Ev.nums, List.cons.injEq, and_true] at c
  cases e; cases f
  simp only at *
  obtain ⟨c1, c2, c3, c4, c5, c6, c7, c8, c9, c10⟩ := c
  subst a b c1 c2 c3 c4 c5 c6 c7 c8 c9 c10 h1 h2 h3
  rfl
theorem num_short {e : Ev} (h : (evCode e).length ≤ 100000000) : In e.name.data.toList.length ∧ In e.text.data.toList.length := by
  rw [evCode_tl] at h
  unfold tlS tlE tlK at h
  have key : ∀ (l : List Int) (r : List UInt8), r.length ≤ (numsC l r).length := by
    intro l
    induction l with
    | nil => intro r; exact Nat.le_refl _
    | cons n l ih => intro r; rw [numsC_cons, List.length_append, List.length_cons]; have := ih r; omega
  have h1 := key (e.nums.drop 0) (tlH e)
  unfold tlH tlQ tlN tlT at h1
  simp only [List.length_append, List.length_cons] at h h1
  unfold In
  unfold tlH tlQ tlN tlT at h
  omega
/-! ### What cutting gives -/
theorem index_at {a b : List UInt8} {x : UInt8} (h : ∀ c ∈ a, c ≠ x) : Lib.index (a ++ x :: b) [x] = a.length := by
  refine Lib.index_first (by simp) ?_ ?_
  · unfold Lib.occAt
    rw [List.drop_left]
    simp
  · intro j hj
    unfold Lib.occAt
    rw [List.drop_append_of_le_length (by omega), List.drop_eq_getElem_cons hj]
    have := h a[j] (List.getElem_mem hj)
    simp only [List.cons_append, List.isPrefixOf_cons_cons]
    have e : (x == a[j]) = false := by simpa using fun e => this e.symm
    rw [e]; rfl
theorem index_no {a : List UInt8} {x : UInt8} (h : ∀ c ∈ a, c ≠ x) : Lib.index a [x] = -1 := by
  refine Lib.index_none fun j _ => ?_
  cases ho : Lib.occAt a [x] j with
  | false => rfl
  | true => exact absurd rfl (h x (List.mem_of_getElem? (Lib.occAt_head rfl ho)))
theorem cut_line {a b : List UInt8} {x : UInt8} (h : ∀ c ∈ a, c ≠ x) : Lib.cut (a ++ x :: b) [x] = (a, b, true) := by
  unfold Lib.cut
  rw [index_at h, if_pos (by omega)]
  simp
theorem cut_word {l x t : List UInt8} {c : UInt8} (h : WordAt l c x t) : Lib.cut l [c] = (x, t, true) := by rw [h.2]; exact cut_line h.1
theorem cut_small (l : List UInt8) (c : UInt8) : (Lib.cut l [c]).1.length ≤ l.length ∧ (Lib.cut l [c]).2.1.length ≤ l.length := by
  unfold Lib.cut
  split
  · exact ⟨by rw [List.length_take]; omega, by rw [List.length_drop]; omega⟩
  · exact ⟨Nat.le_refl _, Nat.zero_le _⟩
/-- A text with its length ahead of it stands at a text's beginning. -/
def QuoAt (l x t : List UInt8) : Prop := In x.length ∧ l = Lib.itoa x.length ++ 58 :: (x ++ t)
theorem QuoAt.num {l x t : List UInt8} (h : QuoAt l x t) : NumAt l 58 x.length (x ++ t) := h
/-- What is left of a text if it is the code of an event. -/
structure Tail (s : List UInt8) (k : Nat) (e : Ev) (r : List UInt8) : Prop where
  at_ : ∀ f : Ev, f.Ok → s = evCode f → Agrees k e f ∧ r = tlK f k
/-- What a reader of codes answers. -/
def CodR (s : List UInt8) (z u : Ev) (code : Int) : Prop := (code = 0 ∧ u.Ok ∧ s = evCode u) ∨ (code = 11 ∧ u = z ∧ ∀ f : Ev, f.Ok → s ≠ evCode f)
theorem CodR.two {s : List UInt8} {z u v : Ev} {c d : Int} (hs : s.length ≤ 100000000) (h : CodR s z u c) (k : CodR s z v d) : c = d ∧ u = v := by
  rcases h with ⟨rfl, h1, h2⟩ | ⟨rfl, rfl, h2⟩ <;> rcases k with ⟨rfl, k1, k2⟩ | ⟨rfl, rfl, k2⟩
  · obtain ⟨a, b⟩ := num_short (e := u) (by rw [← h2]; exact hs)
    obtain ⟨a', b'⟩ := num_short (e := v) (by rw [← k2]; exact hs)
    exact ⟨rfl, evCode_inj h1 k1 a b a' b' (h2.symm.trans k2)⟩
  · exact (k2 u h1 h2).elim
  · exact (h2 v k1 k2).elim
  · exact ⟨rfl, rfl⟩
end Go.Proofs.YtclpebgjmgfigaaGreatDoor
namespace Go.Proofs.YtclpebgjmgfigaaGreatDoor
open Go.RowKit Go.Shelf
/-- The number of a hexadecimal digit among the first k, or -1. -/
def nibK (c : UInt8) : Nat → Int
  | 0 => -1
  | k + 1 => if hexC k = c then (k : Int) else nibK c k
def nib (c : UInt8) : Int := nibK c 16
theorem nibK_bd (c : UInt8) (k : Nat) : -1 ≤ nibK c k ∧ nibK c k < (k : Int) := by
  induction k with
  | zero => exact ⟨by simp [nibK], by simp [nibK]⟩
  | succ k ih =>
    unfold nibK
    split
    · omega
    · omega
theorem nib_bd (c : UInt8) : -1 ≤ nib c ∧ nib c < 16 := nibK_bd c 16
theorem nib_hex : ∀ n : Fin 16, nib (hexC n.val) = n.val := by decide
/-- A byte with a digit put behind its last one. -/
def shN (x : UInt8) (n : Nat) : UInt8 := UInt8.ofNat ((x.toNat * 16 + n) % 256)
theorem shN_zero {n : Nat} (h : n < 16) : shN 0 n = UInt8.ofNat n := by
  unfold shN
  rw [show (0 : UInt8).toNat = 0 from rfl, Nat.zero_mul, Nat.zero_add, Nat.mod_eq_of_lt (by omega)]
theorem shN_join (c : UInt8) : shN (UInt8.ofNat (c.toNat / 16)) (c.toNat % 16) = c := by
  have lc := c.toNat_lt
  apply UInt8.toNat_inj.1
  unfold shN
  rw [UInt8.toNat_ofNat', UInt8.toNat_ofNat']
  omega
/-- What the bytes are if the text is the hexadecimal form of a hash. -/
def HexI (s : List UInt8) (i : Nat) (L : List UInt8) : Prop := L.length = 32 ∧ ∀ h : List UInt8, h.length = 32 → s = hexL h → L = hexUp h i
theorem HexI.start (s : List UInt8) : HexI s 0 (List.replicate 32 0) := ⟨by simp, fun h _ _ => (hexUp_zero h).symm⟩
theorem hex_digit {s : List UInt8} {i : Nat} {c : UInt8} (hc : s[i]? = some c) {h : List UInt8} (hl : h.length = 32) (hs : s = hexL h) : ∃ (j : Nat) (d : UInt8), j < 32 ∧ h[j]? = some d ∧ ((i = 2 * j ∧ nib c = (d.toNat / 16 : Nat)) ∨ (i = 2 * j + 1 ∧ nib c = (d.toNat % 16 : Nat))) := by
  have hi : i < 64 := by
    have := (List.getElem?_eq_some_iff.1 hc).1
    rw [hs, hexL_len, hl] at this
    exact this
  have hj : i / 2 < 32 := by omega
  obtain ⟨d, hd⟩ : ∃ d, h[i / 2]? = some d := ⟨_, List.getElem?_eq_getElem (by omega)⟩
  have hg := hexL_get h (i / 2) d hd
  have ld := d.toNat_lt
  refine ⟨i / 2, d, hj, hd, ?_⟩
  rw [hs] at hc
  by_cases he : i = 2 * (i / 2)
  · refine .inl ⟨he, ?_⟩
    rw [← he, hc] at hg
    rw [Option.some.inj hg.1]
    exact nib_hex ⟨d.toNat / 16, by omega⟩
  · have ho : i = 2 * (i / 2) + 1 := by omega
    refine .inr ⟨ho, ?_⟩
    rw [← ho, hc] at hg
    rw [Option.some.inj hg.2]
    exact nib_hex ⟨d.toNat % 16, by omega⟩
theorem HexI.step {s L : List UInt8} {i : Nat} {c x : UInt8} {n : Nat} (h : HexI s i L) (hc : s[i]? = some c) (hn : nib c = (n : Int)) (hx : L[i / 2]? = some x) : HexI s (i + 1) (L.set (i / 2) (shN x n)) := by
  refine ⟨by rw [List.length_set]; exact h.1, fun g hl hs => ?_⟩
  obtain ⟨j, d, hj, hd, hcase⟩ := hex_digit hc hl hs
  have hL := h.2 g hl hs
  rw [hL] at hx ⊢
  have ld := d.toNat_lt
  rcases hcase with ⟨rfl, hv⟩ | ⟨rfl, hv⟩
  · have e1 : 2 * j / 2 = j := by omega
    obtain ⟨h1, h2⟩ := hexUp_even hl hj hd
    rw [e1] at hx ⊢
    rw [h1] at hx
    obtain rfl := Option.some.inj hx
    have hnn : n = d.toNat / 16 := by omega
    rw [hnn, shN_zero (by omega), h2]
  · have e1 : (2 * j + 1) / 2 = j := by omega
    obtain ⟨h1, h2⟩ := hexUp_odd hl hj hd
    rw [e1] at hx ⊢
    rw [h1] at hx
    obtain rfl := Option.some.inj hx
    have hnn : n = d.toNat % 16 := by omega
    rw [hnn, shN_join, h2]
theorem HexI.done {s L : List UInt8} (h : HexI s 64 L) {g : List UInt8} (hl : g.length = 32) (hs : s = hexL g) : L = g := by rw [h.2 g hl hs, hexUp_all hl]
theorem hex_long {s g : List UInt8} (hl : g.length = 32) (hs : s = hexL g) : s.length = 64 := by rw [hs, hexL_len, hl]
/-- A letter that is no digit stands in no hexadecimal form. -/
theorem hex_none {s : List UInt8} {i : Nat} {c : UInt8} (hc : s[i]? = some c) (hn : nib c < 0) {g : List UInt8} (hl : g.length = 32) (hs : s = hexL g) : False := by
  obtain ⟨j, d, _, _, hcase⟩ := hex_digit hc hl hs
  rcases hcase with ⟨_, hv⟩ | ⟨_, hv⟩ <;> omega
end Go.Proofs.YtclpebgjmgfigaaGreatDoor
namespace Go.Proofs.YtclpebgjmgfigaaGreatDoor
open Go.RowKit Go.Shelf
theorem code_num (f : Ev) (h : f.Ok) : NumAt (evCode f) 32 f.r (tlS f) := ⟨h.r, evCode_tl f⟩
theorem tlS_num (f : Ev) (h : f.Ok) : NumAt (tlS f) 32 f.s (tlE f) := ⟨h.s, rfl⟩
theorem tlE_word (f : Ev) : WordAt (tlE f) 32 evWl (tlK f 0) := ⟨word_event, rfl⟩
theorem tlK_num {f : Ev} (h : f.Ok) {k : Nat} {n : Int} (hn : f.nums[k]? = some n) : NumAt (tlK f k) 32 n (tlK f (k + 1)) := ⟨nums_in h n (List.mem_of_getElem? hn), tlK_step hn⟩
theorem tlH_word (f : Ev) : WordAt (tlK f 10) 32 (hexL f.prev) (tlQ f) := ⟨hexL_ne _, rfl⟩
theorem tlQ_quo {f : Ev} (h : In f.name.data.toList.length) : QuoAt (tlQ f) f.name.data.toList (32 :: tlT f) := ⟨h, rfl⟩
theorem tlT_word (f : Ev) : WordAt (32 :: tlT f) 32 [] (tlT f) := ⟨(fun _ h => by cases h), rfl⟩
theorem tlT_quo {f : Ev} (h : In f.text.data.toList.length) : QuoAt (tlT f) f.text.data.toList [] := ⟨h, by rw [List.append_nil]; rfl⟩
/-- A code of an event that is short. -/
def Code (s : List UInt8) (f : Ev) : Prop := f.Ok ∧ s = evCode f
theorem Code.short {s : List UInt8} {f : Ev} (h : Code s f) (hs : s.length ≤ 100000000) : In f.name.data.toList.length ∧ In f.text.data.toList.length := num_short (by rw [← h.2]; exact hs)
/-- How far a reader has come in reading the numbers. -/
def Got (s : List UInt8) (k : Nat) (e : Ev) (r : List UInt8) : Prop := ∀ f : Ev, Code s f → Agrees k e f ∧ r = tlK f k
theorem Got.step {s r r' : List UInt8} {k : Nat} {e : Ev} {n : Int} (hk : k < 10) (h : Got s k e r) (hr : ∀ m t, NumAt r 32 m t → n = m ∧ r' = t) : Got s (k + 1) (e.setN k n) r' := fun f hf => by
  obtain ⟨h1, h2⟩ := h f hf
  obtain ⟨m, hm⟩ : ∃ m, f.nums[k]? = some m := ⟨_, List.getElem?_eq_getElem (by rw [nums_len]; exact hk)⟩
  obtain ⟨rfl, h4⟩ := hr m _ (by rw [h2]; exact tlK_num hf.1 hm)
  exact ⟨h1.step hm, h4⟩
/-- Where the k-th number stands among an event's cells. -/
def offN (k : Nat) : Nat := if k < 8 then k else k + 2
end Go.Proofs.YtclpebgjmgfigaaGreatDoor
