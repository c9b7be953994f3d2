/- What is proved here: events and their texts and codes in plain Lean: a code tells its event, a text tells all but the signature; no program in sight. No conditions. -/
import Derived.Test.YtclpebgjmgfigaaGreatDoorM4
import Derived.Test.YtclpebgjmgfigaaGreatDoorM1
namespace Go.Proofs.YtclpebgjmgfigaaGreatDoor
/-- An event. -/
structure Ev where
  seq : Int
  kind : Int
  who : Int
  time : Int
  bidder : Int
  lot : Int
  n : Int
  other : Int
  name : ByteArray
  text : ByteArray
  sx : Int
  sy : Int
  prev : List UInt8
  r : Int
  s : Int
/-- Its numbers are ints, its hash has 32 bytes. -/
structure Ev.Ok (e : Ev) : Prop where
  seq : In e.seq
  kind : In e.kind
  who : In e.who
  time : In e.time
  bidder : In e.bidder
  lot : In e.lot
  n : In e.n
  other : In e.other
  sx : In e.sx
  sy : In e.sy
  prev : e.prev.length = 32
  r : In e.r
  s : In e.s
/-- A hexadecimal digit. -/
def hexC (n : Nat) : UInt8 := if n < 10 then UInt8.ofNat (48 + n) else UInt8.ofNat (87 + n)
def hexL : List UInt8 → List UInt8
  | [] => []
  | c :: l => hexC (c.toNat / 16) :: hexC (c.toNat % 16) :: hexL l
def quoL (s : List UInt8) : List UInt8 := Lib.itoa s.length ++ 58 :: s
/-- Numbers with blanks between them. -/
def numsL : List Int → List UInt8
  | [] => []
  | [n] => Lib.itoa n
  | n :: m :: l => Lib.itoa n ++ 32 :: numsL (m :: l)
def Ev.nums (e : Ev) : List Int := [e.seq, e.kind, e.who, e.time, e.bidder, e.lot, e.n, e.other, e.sx, e.sy]
def evText (e : Ev) : List UInt8 := [101, 118, 101, 110, 116] ++ 32 :: (numsL e.nums ++ 32 :: (hexL e.prev ++ 32 :: (quoL e.name.data.toList ++ 32 :: quoL e.text.data.toList)))
def evCode (e : Ev) : List UInt8 := numsL [e.r, e.s] ++ 32 :: evText e
theorem hexL_len (l : List UInt8) : (hexL l).length = 2 * l.length := by
  induction l with
  | nil => rfl
  | cons c l ih => simp only [hexL, List.length_cons, ih]; omega
theorem hexC_nat {n : Nat} (h : n < 16) : (hexC n).toNat = if n < 10 then 48 + n else 87 + n := by
  unfold hexC
  split <;> rw [UInt8.toNat_ofNat'] <;> omega
theorem hexC_inj {n m : Nat} (hn : n < 16) (hm : m < 16) (h : hexC n = hexC m) : n = m := by
  have h1 := congrArg UInt8.toNat h
  rw [hexC_nat hn, hexC_nat hm] at h1
  split at h1 <;> split at h1 <;> omega
theorem hexL_inj : ∀ {a b : List UInt8}, hexL a = hexL b → a = b
  | [], [], _ => rfl
  | [], _ :: _, h => by simp [hexL] at h
  | _ :: _, [], h => by simp [hexL] at h
  | c :: a, d :: b, h => by
    simp only [hexL, List.cons.injEq] at h
    obtain ⟨h1, h2, h3⟩ := h
    have lc := c.toNat_lt
    have ld := d.toNat_lt
    have e1 := hexC_inj (by omega) (by omega) h1
    have e2 := hexC_inj (by omega) (by omega) h2
    rw [hexL_inj h3, show c = d from UInt8.toNat_inj.1 (by omega)]
/-- No byte of a decimal numeral is this one. -/
theorem itoa_ne {n : Int} (h : In n) {b : UInt8} (hb : b ≠ 45 ∧ (b.toNat < 48 ∨ 57 < b.toNat)) : ∀ c ∈ Lib.itoa n, c ≠ b := by
  obtain ⟨h0, h1⟩ := h
  have key : ∀ u : Nat, u < 10000000000000000000 → ∀ c ∈ Lib.decDigits u, c ≠ b := fun u hu c hc e => by
    have h2 := (dec_ok hu).1 c hc
    subst e
    unfold digit at h2
    omega
  by_cases hn : n < 0
  · rw [itoa_min hn]
    intro c hc
    rcases List.mem_cons.1 hc with rfl | hc
    · exact fun e => hb.1 e.symm
    · exact key _ (by omega) c hc
  · rw [itoa_pos (by omega)]
    exact key _ (by omega)
theorem split_sep {b : UInt8} : ∀ {a a' l l' : List UInt8}, (∀ c ∈ a, c ≠ b) → (∀ c ∈ a', c ≠ b) → a ++ b :: l = a' ++ b :: l' → a = a' ∧ l = l'
  | [], [], _, _, _, _, h => ⟨rfl, by simpa using h⟩
  | [], d :: a', _, _, _, h2, h => by
    simp only [List.nil_append, List.cons_append, List.cons.injEq] at h
    exact absurd h.1.symm (h2 d (by simp))
  | d :: a, [], _, _, h1, _, h => by
    simp only [List.nil_append, List.cons_append, List.cons.injEq] at h
    exact absurd h.1 (h1 d (by simp))
  | d :: a, d' :: a', _, _, h1, h2, h => by
    simp only [List.cons_append, List.cons.injEq] at h
    obtain ⟨e1, e2⟩ := split_sep (fun c hc => h1 c (by simp [hc])) (fun c hc => h2 c (by simp [hc])) h.2
    exact ⟨by rw [h.1, e1], e2⟩
theorem num_sep {n m : Int} {b : UInt8} {l l' : List UInt8} (hn : In n) (hm : In m) (hb : b ≠ 45 ∧ (b.toNat < 48 ∨ 57 < b.toNat)) (h : Lib.itoa n ++ b :: l = Lib.itoa m ++ b :: l') : n = m ∧ l = l' := by
  obtain ⟨h1, h2⟩ := split_sep (itoa_ne hn hb) (itoa_ne hm hb) h
  exact ⟨itoa_inj hn hm h1, h2⟩
theorem blank_ok : (32 : UInt8) ≠ 45 ∧ ((32 : UInt8).toNat < 48 ∨ 57 < (32 : UInt8).toNat) := by decide
theorem colon_ok : (58 : UInt8) ≠ 45 ∧ ((58 : UInt8).toNat < 48 ∨ 57 < (58 : UInt8).toNat) := by decide
theorem nums_sep : ∀ {a b : List Int} {l l' : List UInt8}, a.length = b.length → (∀ n ∈ a, In n) → (∀ n ∈ b, In n) → numsL a ++ 32 :: l = numsL b ++ 32 :: l' → a = b ∧ l = l'
  | [], [], _, _, _, _, _, h => ⟨rfl, by simpa [numsL] using h⟩
  | [n], [m], _, _, _, ha, hb, h => by
    obtain ⟨h1, h2⟩ := num_sep (ha n (by simp)) (hb m (by simp)) blank_ok h
    exact ⟨by rw [h1], h2⟩
  | n :: n' :: a, m :: m' :: b, _, _, hl, ha, hb, h => by
    simp only [numsL, List.append_assoc, List.cons_append] at h
    obtain ⟨h1, h2⟩ := num_sep (ha n (by simp)) (hb m (by simp)) blank_ok h
    obtain ⟨h3, h4⟩ := nums_sep (a := n' :: a) (b := m' :: b) (by simpa using hl) (fun x hx => ha x (by simp at hx ⊢; exact .inr hx)) (fun x hx => hb x (by simp at hx ⊢; exact .inr hx)) h2
    exact ⟨by rw [h1, h3], h4⟩
  | [], _ :: _, _, _, h, _, _, _ => by simp at h
  | _ :: _, [], _, _, h, _, _, _ => by simp at h
  | [_], _ :: _ :: _, _, _, h, _, _, _ => by simp at h
  | _ :: _ :: _, [_], _, _, h, _, _, _ => by simp at h
theorem quo_sep {a b l l' : List UInt8} (ha : In a.length) (hb : In b.length) (h : quoL a ++ l = quoL b ++ l') : a = b ∧ l = l' := by
  unfold quoL at h
  simp only [List.append_assoc, List.cons_append] at h
  obtain ⟨h1, h2⟩ := num_sep ha hb colon_ok h
  exact List.append_inj h2 (by omega)
theorem bytes_ext {a b : ByteArray} (h : a.data.toList = b.data.toList) : a = b := by
  cases a; cases b; simp only at h; congr; exact Array.ext' h
/-- The event without its signature. -/
def Ev.bare (e : Ev) : Ev := { e with r := 0, s := 0 }
theorem evText_bare (e : Ev) : evText e.bare = evText e := rfl
theorem evText_inj {e f : Ev} (he : e.Ok) (hf : f.Ok) (ne : In e.name.data.toList.length) (te : In e.text.data.toList.length) (nf : In f.name.data.toList.length) (tf : In f.text.data.toList.length) (h : evText e = evText f) : e.bare = f.bare := by
  unfold evText at h
  have h0 := List.append_cancel_left h
  simp only [List.cons.injEq, true_and] at h0
  obtain ⟨h1, h2⟩ := nums_sep (by rfl) (by intro x hx; simp only [Ev.nums, List.mem_cons, List.not_mem_nil, or_false] at hx; rcases hx with rfl | rfl | rfl | rfl | rfl | rfl | rfl | rfl | rfl | rfl <;> first | exact he.seq | exact he.kind | exact he.who | exact he.time | exact he.bidder | exact he.lot | exact he.n | exact he.other | exact he.sx | exact he.sy)
    (by intro x hx; simp only [Ev.nums, List.mem_cons, List.not_mem_nil, or_false] at hx; rcases hx with rfl | rfl | rfl | rfl | rfl | rfl | rfl | rfl | rfl | rfl <;> first | exact hf.seq | exact hf.kind | exact hf.who | exact hf.time | exact hf.bidder | exact hf.lot | exact hf.n | exact hf.other | exact hf.sx | exact hf.sy) h0
  obtain ⟨h3, h4⟩ := List.append_inj h2 (by rw [hexL_len, hexL_len, he.prev, hf.prev])
  simp only [List.cons.injEq, true_and] at h4
  obtain ⟨h5, h6⟩ := quo_sep ne nf h4
  simp only [List.cons.injEq, true_and] at h6
  obtain ⟨h7, _⟩ := quo_sep (l := []) (l' := []) te tf (by rw [List.append_nil, List.append_nil]; exact h6)
  simp only [Ev.nums, List.cons.injEq, and_true] at h1
  obtain ⟨a1, a2, a3, a4, a5, a6, a7, a8, a9, a10⟩ := h1
  have h8 := hexL_inj h3
  have h9 := bytes_ext h5
  have h10 := bytes_ext h7
  cases e; cases f
  simp only at *
  subst a1 a2 a3 a4 a5 a6 a7 a8 a9 a10 h8 h9 h10
  rfl
theorem evCode_inj {e f : Ev} (he : e.Ok) (hf : f.Ok) (ne : In e.name.data.toList.length) (te : In e.text.data.toList.length) (nf : In f.name.data.toList.length) (tf : In f.text.data.toList.length) (h : evCode e = evCode f) : e = f := by
  unfold evCode at h
  obtain ⟨h1, h2⟩ := nums_sep (by rfl) (by intro x hx; simp only [List.mem_cons, List.not_mem_nil, or_false] at hx; rcases hx with rfl | rfl <;> first | exact he.r | exact he.s) (by intro x hx; simp only [List.mem_cons, List.not_mem_nil, or_false] at hx; rcases hx with rfl | rfl <;> first | exact hf.r | exact hf.s) h
  have h3 := evText_inj he hf ne te nf tf h2
  simp only [List.cons.injEq, and_true] at h1
  cases e; cases f
  simp only [Ev.bare, Ev.mk.injEq] at *
  simp [h1, h3]
end Go.Proofs.YtclpebgjmgfigaaGreatDoor
