/- What is proved here: several parts. lines of words and numbers, and texts of such lines, in plain Lean: a text tells its lines; no program in sight. No conditions. · texts of lines (a word, and numbers) tell their lines, in plain Lean; no program in sight. No conditions. · the contents of bids (lots with values, rebates) and their texts in plain Lean: a text tells its content; no program in sight. No conditions. · rows of words and cursors over texts of lines in plain Lean: what is cut off a text, and how a number is read; no program in sight. No conditions. · what a cursor that passes words, strings, numbers and lists of numbers has read, in plain Lean: lots with values, lots with prices and rebates; no program in sight. No conditions. · lists of numbers, hexadecimal texts, price texts and bids off a cursor, in plain Lean; no program in sight. No conditions. · the contents of bids that the laws make from numbers, in plain Lean: they are right without wild names, and short; no program in sight. No conditions. · readers that split a text into rows and write it again, in plain Lean; no program in sight. No conditions. · what the tests of a cursor tell, in plain Lean; no program in sight. No conditions. -/
import Derived.Test.YtpdlbmieciabmaaGreatDoorM4
import Derived.Lib.ParseIntBTie
import Derived.Lib.SplitLaws
namespace Go.Proofs.YtpdlbmieciabmaaGreatDoor
def wordsN (l : List Int) : List UInt8 := l.flatMap (fun n => 32 :: Lib.itoa n)
def lineL (word : List UInt8) (l : List Int) : List UInt8 := word ++ wordsN l ++ [10]
/-- A bid. -/
structure Bd where
  bidder : Int
  qt : ByteArray
  qc : List Int
  pt : ByteArray
  pc : List Int
def wBid : List UInt8 := [98, 105, 100]
def wQuality : List UInt8 := [113, 117, 97, 108, 105, 116, 121]
def wPrice : List UInt8 := [112, 114, 105, 99, 101]
def encB (b : Bd) : List UInt8 := lineL wBid [b.bidder] ++ lineL wQuality b.qc ++ lineL (hexL b.qt.data.toList) [] ++ lineL wPrice b.pc ++ lineL (hexL b.pt.data.toList) []
end Go.Proofs.YtpdlbmieciabmaaGreatDoor
namespace Go.Proofs.YtpdlbmieciabmaaGreatDoor
/-- A line: a word, and numbers. -/
abbrev Ln := List UInt8 × List Int
def lineOf (x : Ln) : List UInt8 := lineL x.1 x.2
def textG (p : List Ln) : List UInt8 := p.flatMap lineOf
def mid (c : UInt8) : Bool := c != 32 && c != 10
def LineOk (x : Ln) : Prop := (∀ c ∈ x.1, mid c = true) ∧ ∀ n ∈ x.2, In n
theorem itoa_mid {n : Int} (h : In n) : ∀ c ∈ Lib.itoa n, mid c = true := fun c hc => by
  have h1 := itoa_ne h (b := 32) (by decide) c hc
  have h2 := itoa_ne h (b := 10) (by decide) c hc
  unfold mid
  simp [h1, h2]
theorem mid_sep : ∀ {a a' : List UInt8} {x x' : UInt8} {l l' : List UInt8}, (∀ c ∈ a, mid c = true) → (∀ c ∈ a', mid c = true) → mid x = false → mid x' = false → a ++ x :: l = a' ++ x' :: l' → a = a' ∧ x = x' ∧ l = l'
  | [], [], x, x', l, l', _, _, _, _, h => by
    simp only [List.nil_append, List.cons.injEq] at h
    exact ⟨rfl, h.1, h.2⟩
  | [], d :: a', x, x', _, _, _, h2, h3, _, h => by
    simp only [List.nil_append, List.cons_append, List.cons.injEq] at h
    have := h2 d (by simp)
    rw [← h.1, h3] at this
    cases this
  | d :: a, [], x, x', _, _, h1, _, _, h4, h => by
    simp only [List.nil_append, List.cons_append, List.cons.injEq] at h
    have := h1 d (by simp)
    rw [h.1, h4] at this
    cases this
  | d :: a, d' :: a', x, x', _, _, h1, h2, h3, h4, h => by
    simp only [List.cons_append, List.cons.injEq] at h
    obtain ⟨e1, e2⟩ := mid_sep (fun c hc => h1 c (by simp [hc])) (fun c hc => h2 c (by simp [hc])) h3 h4 h.2
    exact ⟨by rw [h.1, e1], e2⟩
theorem mid32 : mid 32 = false := rfl
theorem mid10 : mid 10 = false := rfl
theorem wordsN_cons (n : Int) (ns : List Int) : wordsN (n :: ns) = 32 :: (Lib.itoa n ++ wordsN ns) := by unfold wordsN; simp
/-- What stands behind a word begins with a blank or ends the line. -/
theorem words_head (ns : List Int) (r : List UInt8) : ∃ x l, wordsN ns ++ 10 :: r = x :: l ∧ mid x = false := by
  cases ns with
  | nil => exact ⟨10, r, rfl, rfl⟩
  | cons n ns => exact ⟨32, Lib.itoa n ++ wordsN ns ++ 10 :: r, by rw [wordsN_cons]; simp, rfl⟩
theorem words_inj : ∀ {ns ms : List Int} {r r' : List UInt8}, (∀ n ∈ ns, In n) → (∀ n ∈ ms, In n) → wordsN ns ++ 10 :: r = wordsN ms ++ 10 :: r' → ns = ms ∧ r = r'
  | [], [], _, _, _, _, h => by
    simp only [wordsN, List.flatMap_nil, List.nil_append, List.cons.injEq, true_and] at h
    exact ⟨rfl, h⟩
  | [], m :: ms, _, _, _, _, h => by
    rw [wordsN_cons] at h
    simp [wordsN] at h
  | n :: ns, [], _, _, _, _, h => by
    rw [wordsN_cons] at h
    simp [wordsN] at h
  | n :: ns, m :: ms, r, r', h1, h2, h => by
    rw [wordsN_cons, wordsN_cons] at h
    simp only [List.cons_append, List.cons.injEq, true_and, List.append_assoc] at h
    obtain ⟨x, l, e1, hx⟩ := words_head ns r
    obtain ⟨x', l', e2, hx'⟩ := words_head ms r'
    rw [e1, e2] at h
    obtain ⟨a1, a2, a3⟩ := mid_sep (itoa_mid (h1 n (by simp))) (itoa_mid (h2 m (by simp))) hx hx' h
    obtain ⟨b1, b2⟩ := words_inj (fun k hk => h1 k (by simp [hk])) (fun k hk => h2 k (by simp [hk])) (e1.trans ((by rw [a2, a3] : x :: l = x' :: l').trans e2.symm))
    exact ⟨by rw [b1, itoa_inj (h1 n (by simp)) (h2 m (by simp)) a1], b2⟩
theorem line_inj {x y : Ln} {r r' : List UInt8} (hx : LineOk x) (hy : LineOk y) (h : lineOf x ++ r = lineOf y ++ r') : x = y ∧ r = r' := by
  obtain ⟨w, ns⟩ := x
  obtain ⟨w', ms⟩ := y
  unfold lineOf lineL at h
  simp only [List.append_assoc, List.cons_append, List.nil_append] at h
  obtain ⟨a, l, e1, ha⟩ := words_head ns r
  obtain ⟨a', l', e2, ha'⟩ := words_head ms r'
  rw [e1, e2] at h
  obtain ⟨c1, c2, c3⟩ := mid_sep hx.1 hy.1 ha ha' h
  obtain ⟨d1, d2⟩ := words_inj hx.2 hy.2 (e1.trans ((by rw [c2, c3] : a :: l = a' :: l').trans e2.symm))
  exact ⟨by rw [Prod.mk.injEq]; exact ⟨c1, d1⟩, d2⟩
theorem textG_cons (x : Ln) (p : List Ln) : textG (x :: p) = lineOf x ++ textG p := by unfold textG; simp
theorem textG_app (p q : List Ln) : textG (p ++ q) = textG p ++ textG q := by unfold textG; simp
theorem textG_snoc (p : List Ln) (x : Ln) : textG (p ++ [x]) = textG p ++ lineOf x := by unfold textG; simp
theorem lineOf_ne (x : Ln) : lineOf x ≠ [] := by unfold lineOf lineL; simp
/-- The lines behind a text that begins another one. -/
theorem textG_pre : ∀ {q p : List Ln} {r : List UInt8}, (∀ x ∈ q, LineOk x) → (∀ x ∈ p, LineOk x) → textG p = textG q ++ r → ∃ p', p = q ++ p' ∧ r = textG p'
  | [], p, r, _, _, h => ⟨p, rfl, h.symm⟩
  | x :: q, [], r, _, _, h => by
    rw [textG_cons] at h
    have h2 := congrArg List.length h
    have h3 : 0 < (lineOf x).length := List.length_pos_iff.2 (lineOf_ne x)
    simp only [textG, List.flatMap_nil, List.length_nil, List.length_append] at h2
    omega
  | x :: q, y :: p, r, hq, hp, h => by
    rw [textG_cons, textG_cons, List.append_assoc] at h
    obtain ⟨e1, e2⟩ := line_inj (hp y (by simp)) (hq x (by simp)) h
    obtain ⟨p', e3, e4⟩ := textG_pre (fun z hz => hq z (by simp [hz])) (fun z hz => hp z (by simp [hz])) e2
    exact ⟨p', by rw [e1, e3]; rfl, e4⟩
theorem textG_inj {q p : List Ln} (hq : ∀ x ∈ q, LineOk x) (hp : ∀ x ∈ p, LineOk x) (h : textG p = textG q) : p = q := by
  obtain ⟨p', e1, e2⟩ := textG_pre hq hp (h.trans (List.append_nil _).symm)
  cases p' with
  | nil => rw [e1, List.append_nil]
  | cons y p' =>
    rw [textG_cons] at e2
    exact absurd (congrArg List.length e2) (by have := List.length_pos_iff.2 (lineOf_ne y); simp only [List.length_nil, List.length_append]; omega)
/-- This text is that of these lines. -/
def IsTx (s : List UInt8) (p : List Ln) : Prop := (∀ x ∈ p, LineOk x) ∧ s = textG p
theorem IsTx.inj {s : List UInt8} {p q : List Ln} (h : IsTx s p) (k : IsTx s q) : p = q := textG_inj k.1 h.1 (h.2.symm.trans k.2)
end Go.Proofs.YtpdlbmieciabmaaGreatDoor
namespace Go.Proofs.YtpdlbmieciabmaaGreatDoor
/-- A value, a lot with its price and values, and a rebate. -/
structure Vl where
  name : ByteArray
  n : Int
structure En where
  lot : Int
  price : Int
  values : List Vl
structure Rb where
  lots : List Int
  pc : Int
def EnIn (e : En) : Prop := In e.lot ∧ In e.price ∧ ∀ v ∈ e.values, In v.n
def RbIn (r : Rb) : Prop := In r.pc ∧ ∀ n ∈ r.lots, In n
def isLet (c : UInt8) : Bool := decide (97 ≤ c.toNat ∧ c.toNat ≤ 122)
def isWordL (l : List UInt8) : Bool := !l.isEmpty && l.all isLet
def wLot : List UInt8 := [108, 111, 116]
def wRebate : List UInt8 := [114, 101, 98, 97, 116, 101]
def goodN (l : List UInt8) : Bool := isWordL l && l != wLot
def rightL (es : List En) : Bool := es.all fun e => e.values.all fun v => goodN v.name.data.toList
def vLine (v : Vl) : Ln := (v.name.data.toList, [v.n])
def eLines (e : En) : List Ln := (wLot, [e.lot]) :: e.values.map vLine
def qLines (es : List En) : List Ln := es.flatMap eLines
def qualL (es : List En) : List UInt8 := if rightL es = true then textG (qLines es) else []
def pLine (e : En) : Ln := (wLot, [e.lot, e.price])
def rLine (r : Rb) : Ln := (wRebate, r.pc :: r.lots)
def pLines (es : List En) (rs : List Rb) : List Ln := es.map pLine ++ rs.map rLine
def pricL (es : List En) (rs : List Rb) : List UInt8 := textG (pLines es rs)
/-! ### What the readers answer -/
def QRd (s : List UInt8) (es : List En) : Prop := rightL es = true ∧ (∀ e ∈ es, EnIn e ∧ e.price = 0) ∧ s = textG (qLines es)
def PRd (s : List UInt8) (es : List En) (rs : List Rb) : Prop := (∀ e ∈ es, EnIn e ∧ e.values = []) ∧ (∀ r ∈ rs, RbIn r) ∧ s = pricL es rs
theorem let_mid {c : UInt8} (h : isLet c = true) : mid c = true := by
  have h1 := of_decide_eq_true h
  unfold mid
  have h2 : c ≠ 32 := fun e => by subst e; exact absurd h1 (by decide)
  have h3 : c ≠ 10 := fun e => by subst e; exact absurd h1 (by decide)
  simp [h2, h3]
theorem word_mid {l : List UInt8} (h : isWordL l = true) : ∀ c ∈ l, mid c = true := fun c hc => by
  unfold isWordL at h
  rw [Bool.and_eq_true] at h
  exact let_mid (List.all_eq_true.1 h.2 c hc)
theorem lot_mid : ∀ c ∈ wLot, mid c = true := by decide
theorem rebate_mid : ∀ c ∈ wRebate, mid c = true := by decide
theorem good_word {l : List UInt8} (h : goodN l = true) : isWordL l = true := by
  unfold goodN at h
  rw [Bool.and_eq_true] at h
  exact h.1
theorem good_ne {l : List UInt8} (h : goodN l = true) : l ≠ wLot := by
  unfold goodN at h
  rw [Bool.and_eq_true] at h
  exact bne_iff_ne.1 h.2
theorem right_val {es : List En} (h : rightL es = true) {e : En} (he : e ∈ es) {v : Vl} (hv : v ∈ e.values) : goodN v.name.data.toList = true := List.all_eq_true.1 (List.all_eq_true.1 h e he) v hv
theorem qLines_ok {es : List En} (h : rightL es = true) (hi : ∀ e ∈ es, EnIn e) : ∀ x ∈ qLines es, LineOk x := fun x hx => by
  obtain ⟨e, he, hx⟩ := List.mem_flatMap.1 hx
  unfold eLines at hx
  rcases List.mem_cons.1 hx with rfl | hx
  · exact ⟨lot_mid, fun n hn => by obtain rfl := List.mem_singleton.1 hn; exact (hi e he).1⟩
  · obtain ⟨v, hv, rfl⟩ := List.mem_map.1 hx
    exact ⟨word_mid (good_word (right_val h he hv)), fun n hn => by obtain rfl := List.mem_singleton.1 hn; exact (hi e he).2.2 v hv⟩
theorem pLines_ok {es : List En} {rs : List Rb} (hi : ∀ e ∈ es, EnIn e) (hr : ∀ r ∈ rs, RbIn r) : ∀ x ∈ pLines es rs, LineOk x := fun x hx => by
  rcases List.mem_append.1 hx with hx | hx
  · obtain ⟨e, he, rfl⟩ := List.mem_map.1 hx
    refine ⟨lot_mid, fun n hn => ?_⟩
    simp only [pLine, List.mem_cons, List.not_mem_nil, or_false] at hn
    rcases hn with rfl | rfl
    · exact (hi e he).1
    · exact (hi e he).2.1
  · obtain ⟨r, hr1, rfl⟩ := List.mem_map.1 hx
    refine ⟨rebate_mid, fun n hn => ?_⟩
    rcases List.mem_cons.1 hn with rfl | hn
    · exact (hr r hr1).1
    · exact (hr r hr1).2 n hn
/-! ### Lots built line by line -/
def addL : List En → Vl → List En
  | [], _ => []
  | [e], v => [{ e with values := e.values ++ [v] }]
  | e :: f :: l, v => e :: addL (f :: l) v
theorem addL_snoc (e : En) (v : Vl) : ∀ es : List En, addL (es ++ [e]) v = es ++ [{ e with values := e.values ++ [v] }]
  | [] => rfl
  | [x] => rfl
  | x :: y :: l => by
    have := addL_snoc e v (y :: l)
    simp only [List.cons_append] at this ⊢
    rw [addL, this]
def qStep (es : List En) (x : Ln) : List En := if x.1 = wLot then es ++ [⟨x.2.headD 0, 0, []⟩] else addL es ⟨⟨x.1.toArray⟩, x.2.headD 0⟩
def bld (p : List Ln) : List En := p.foldl qStep []
theorem bld_vals : ∀ (vs : List Vl) (es : List En) (e : En), (∀ v ∈ vs, goodN v.name.data.toList = true) → (vs.map vLine).foldl qStep (es ++ [e]) = es ++ [{ e with values := e.values ++ vs }]
  | [], es, e, _ => by simp
  | v :: vs, es, e, h => by
    have hn : (vLine v).1 ≠ wLot := good_ne (h v (by simp))
    rw [List.map_cons, List.foldl_cons]
    have hs : qStep (es ++ [e]) (vLine v) = es ++ [{ e with values := e.values ++ [v] }] := by
      unfold qStep
      rw [if_neg hn, addL_snoc]
      simp [vLine]
    rw [hs, bld_vals vs es _ (fun u hu => h u (by simp [hu]))]
    simp [List.append_assoc]
theorem bld_from : ∀ (es acc : List En), rightL es = true → (∀ e ∈ es, e.price = 0) → (qLines es).foldl qStep acc = acc ++ es
  | [], acc, _, _ => by simp [qLines]
  | e :: es, acc, h, h0 => by
    have hv : ∀ v ∈ e.values, goodN v.name.data.toList = true := fun v hv => right_val h (by simp) hv
    have hr : rightL es = true := by
      unfold rightL at h ⊢
      rw [List.all_cons, Bool.and_eq_true] at h
      exact h.2
    have e1 : qLines (e :: es) = (wLot, [e.lot]) :: (e.values.map vLine ++ qLines es) := by unfold qLines eLines; simp
    have e2 : qStep acc (wLot, [e.lot]) = acc ++ [⟨e.lot, 0, []⟩] := rfl
    have e3 : ({ (⟨e.lot, 0, []⟩ : En) with values := [] ++ e.values } : En) = e := by
      have := h0 e (by simp)
      cases e
      simp_all
    rw [e1, List.foldl_cons, e2, List.foldl_append, bld_vals _ _ _ hv, bld_from es _ hr (fun x hx => h0 x (by simp [hx])), e3]
    simp
theorem bld_q {es : List En} (h : rightL es = true) (h0 : ∀ e ∈ es, e.price = 0) : bld (qLines es) = es := by
  unfold bld
  rw [bld_from es [] h h0, List.nil_append]
theorem bld_take {p : List Ln} {k : Nat} {x : Ln} (h : p[k]? = some x) : bld (p.take (k + 1)) = qStep (bld (p.take k)) x := by
  unfold bld
  rw [List.take_add_one, h, Option.toList_some, List.foldl_append]
  rfl
theorem QRd.inj {s : List UInt8} {es fs : List En} (h : QRd s es) (k : QRd s fs) : es = fs := by
  have e := textG_inj (qLines_ok h.1 (fun e he => (h.2.1 e he).1)) (qLines_ok k.1 (fun e he => (k.2.1 e he).1)) (k.2.2.symm.trans h.2.2)
  rw [← bld_q h.1 (fun e he => (h.2.1 e he).2), ← e, bld_q k.1 (fun e he => (k.2.1 e he).2)]
theorem qLines_lot (es : List En) (n : Int) : qLines (es ++ [⟨n, 0, []⟩]) = qLines es ++ [(wLot, [n])] := by unfold qLines eLines; simp
theorem qLines_val (es : List En) (e : En) (v : Vl) : qLines (addL (es ++ [e]) v) = qLines (es ++ [e]) ++ [vLine v] := by
  rw [addL_snoc]
  unfold qLines eLines
  simp
/-- The first line opens a lot. -/
theorem qLines_first {es : List En} {x : Ln} (h : (qLines es)[0]? = some x) : x.1 = wLot := by
  cases es with
  | nil => simp [qLines] at h
  | cons e es =>
    have e1 : qLines (e :: es) = (wLot, [e.lot]) :: (e.values.map vLine ++ qLines es) := by unfold qLines eLines; simp
    rw [e1] at h
    simp only [List.getElem?_cons_zero, Option.some.injEq] at h
    rw [← h]
/-- A line has one number and a word. -/
theorem qLines_line {es : List En} (h : rightL es = true) {x : Ln} (hx : x ∈ qLines es) : (∃ n, x.2 = [n]) ∧ isWordL x.1 = true := by
  obtain ⟨e, he, hx⟩ := List.mem_flatMap.1 hx
  unfold eLines at hx
  rcases List.mem_cons.1 hx with rfl | hx
  · exact ⟨⟨e.lot, rfl⟩, (by decide : isWordL wLot = true)⟩
  · obtain ⟨v, hv, rfl⟩ := List.mem_map.1 hx
    exact ⟨⟨v.n, rfl⟩, good_word (right_val h he hv)⟩
/-! ### Prices -/
theorem lot_rebate : wLot ≠ wRebate := by decide
theorem pLines_inj : ∀ {es fs : List En} {rs us : List Rb}, (∀ e ∈ es, e.values = []) → (∀ e ∈ fs, e.values = []) → pLines es rs = pLines fs us → es = fs ∧ rs = us
  | [], [], rs, us, _, _, h => by
    unfold pLines at h
    simp only [List.map_nil, List.nil_append] at h
    refine ⟨rfl, ?_⟩
    have inj : ∀ {a b : List Rb}, a.map rLine = b.map rLine → a = b := by
      intro a
      induction a with
      | nil => intro b hb; cases b with
        | nil => rfl
        | cons y b => cases hb
      | cons x a ih =>
        intro b hb
        cases b with
        | nil => cases hb
        | cons y b =>
          simp only [List.map_cons, List.cons.injEq] at hb
          have e1 : x = y := by
            have := congrArg Prod.snd hb.1
            simp only [rLine, List.cons.injEq] at this
            cases x; cases y; simp_all
          rw [e1, ih hb.2]
    exact inj h
  | [], f :: fs, [], us, _, _, h => by simp [pLines] at h
  | [], f :: fs, r :: rs, us, _, _, h => by
    simp only [pLines, List.map_nil, List.nil_append, List.map_cons, List.cons_append, List.cons.injEq] at h
    exact absurd (congrArg Prod.fst h.1).symm lot_rebate
  | e :: es, [], rs, [], _, _, h => by simp [pLines] at h
  | e :: es, [], rs, r :: us, _, _, h => by
    simp only [pLines, List.map_nil, List.nil_append, List.map_cons, List.cons_append, List.cons.injEq] at h
    exact absurd (congrArg Prod.fst h.1) lot_rebate
  | e :: es, f :: fs, rs, us, h1, h2, h => by
    simp only [pLines, List.map_cons, List.cons_append, List.cons.injEq] at h
    obtain ⟨a, b⟩ := pLines_inj (rs := rs) (us := us) (fun x hx => h1 x (by simp [hx])) (fun x hx => h2 x (by simp [hx])) h.2
    have e1 : e = f := by
      have := congrArg Prod.snd h.1
      have v1 := h1 e (by simp)
      have v2 := h2 f (by simp)
      simp only [pLine, List.cons.injEq, and_true] at this
      cases e; cases f; simp_all
    exact ⟨by rw [e1, a], b⟩
theorem PRd.inj {s : List UInt8} {es fs : List En} {rs us : List Rb} (h : PRd s es rs) (k : PRd s fs us) : es = fs ∧ rs = us := by
  have e := textG_inj (pLines_ok (fun e he => (h.1 e he).1) h.2.1) (pLines_ok (fun e he => (k.1 e he).1) k.2.1) (k.2.2.symm.trans h.2.2)
  exact pLines_inj (fun e he => (h.1 e he).2) (fun e he => (k.1 e he).2) e.symm
theorem pLines_lot (es : List En) (a b : Int) : pLines (es ++ [⟨a, b, []⟩]) [] = pLines es [] ++ [(wLot, [a, b])] := by unfold pLines pLine; simp
theorem pLines_reb (es : List En) (rs : List Rb) (r : Rb) : pLines es (rs ++ [r]) = pLines es rs ++ [rLine r] := by unfold pLines; simp [List.append_assoc]
end Go.Proofs.YtpdlbmieciabmaaGreatDoor
namespace Go.Proofs.YtpdlbmieciabmaaGreatDoor
/-! ### Rows of words -/
def rowOf (x : Ln) : List (List UInt8) := x.1 :: x.2.map Lib.itoa
def rowD (r : List ByteArray) : List (List UInt8) := r.map (·.data.toList)
theorem index_at {a b : List UInt8} {x : UInt8} (h : ∀ c ∈ a, c ≠ x) : Lib.index (a ++ x :: b) [x] = a.length := by
  refine Lib.index_first (by simp) ?_ ?_
  · unfold Lib.occAt
    rw [List.drop_left]
    simp
  · intro j hj
    unfold Lib.occAt
    rw [List.drop_append_of_le_length (by omega), List.drop_eq_getElem_cons hj]
    have := h a[j] (List.getElem_mem hj)
    simp only [List.cons_append, List.isPrefixOf_cons_cons]
    have e : (x == a[j]) = false := by simpa using fun e => this e.symm
    rw [e]; rfl
theorem index_no {a : List UInt8} {x : UInt8} (h : ∀ c ∈ a, c ≠ x) : Lib.index a [x] = -1 := by
  refine Lib.index_none fun j _ => ?_
  cases ho : Lib.occAt a [x] j with
  | false => rfl
  | true => exact absurd rfl (h x (List.mem_of_getElem? (Lib.occAt_head rfl ho)))
theorem cut_line {a b : List UInt8} {x : UInt8} (h : ∀ c ∈ a, c ≠ x) : Lib.cut (a ++ x :: b) [x] = (a, b, true) := by
  unfold Lib.cut
  rw [index_at h, if_pos (by omega)]
  simp
theorem mid_blank {l : List UInt8} (h : ∀ c ∈ l, mid c = true) : ∀ c ∈ l, c ≠ 32 := fun c hc e => by
  have := h c hc
  rw [e] at this
  cases this
theorem mid_end {l : List UInt8} (h : ∀ c ∈ l, mid c = true) : ∀ c ∈ l, c ≠ 10 := fun c hc e => by
  have := h c hc
  rw [e] at this
  cases this
theorem words_end {ns : List Int} (h : ∀ n ∈ ns, In n) : ∀ c ∈ wordsN ns, c ≠ 10 := fun c hc e => by
  unfold wordsN at hc
  obtain ⟨n, hn, hc⟩ := List.mem_flatMap.1 hc
  rcases List.mem_cons.1 hc with rfl | hc
  · cases e
  · exact mid_end (itoa_mid (h n hn)) c hc e
def blankB : ByteArray := ⟨#[32]⟩
theorem split_words : ∀ (ns : List Int) (w : List UInt8) (s : ByteArray), (∀ c ∈ w, c ≠ 32) → (∀ n ∈ ns, In n) → s.data.toList = w ++ wordsN ns → Lib.countB s blankB = ns.length ∧ rowD (Lib.splitB blankB 0 ns.length s) = w :: ns.map Lib.itoa
  | [], w, s, h, _, e => by
    have e1 : s.data.toList = w := by simpa [wordsN] using e
    have hi : Lib.indexB s blankB = -1 := by
      show Lib.index s.data.toList [32] = -1
      rw [e1]
      exact index_no h
    exact ⟨Lib.countB_miss s blankB hi, by simp [rowD, Lib.splitB_zero, e1]⟩
  | n :: ns, w, s, h, hn, e => by
    rw [wordsN_cons] at e
    have hi : Lib.indexB s blankB = (w.length : Int) := by
      show Lib.index s.data.toList [32] = _
      rw [e]
      exact index_at h
    have hx : (s.extract (w.length + blankB.size) s.size).data.toList = Lib.itoa n ++ wordsN ns := by
      rw [Lib.extract_to_end, e]
      show List.drop (w.length + 1) _ = _
      simp
    obtain ⟨c1, c2⟩ := split_words ns (Lib.itoa n) (s.extract (w.length + blankB.size) s.size) (mid_blank (itoa_mid (hn n (by simp)))) (fun m hm => hn m (by simp [hm])) hx
    refine ⟨?_, ?_⟩
    · rw [Lib.countB_hit s blankB w.length (by decide) hi, c1, List.length_cons]
      omega
    · rw [List.length_cons, Lib.splitB_hit blankB 0 ns.length s w.length hi]
      unfold rowD at c2 ⊢
      rw [List.map_cons, c2, Lib.extract_from_zero, e]
      simp
/-- The room that a row takes in its text. -/
def rowW (r : List ByteArray) : Nat := (r.map fun t => t.size + 1).sum
def rowsW (rows : List (List ByteArray)) : Nat := (rows.map rowW).sum
theorem split_room : ∀ (k : Nat) (s : ByteArray), rowW (Lib.splitB blankB 0 k s) = s.size + 1
  | 0, s => by simp [rowW, Lib.splitB_zero]
  | k + 1, s => by
    rcases Lib.indexB_cases s blankB with h | ⟨i, h, hr⟩
    · rw [Lib.splitB_miss blankB 0 (k + 1) s h]
      simp [rowW]
    · have e1 : blankB.size = 1 := rfl
      have h1 := split_room k (s.extract (i + blankB.size) s.size)
      rw [Lib.splitB_hit blankB 0 k s i h]
      unfold rowW at h1 ⊢
      rw [List.map_cons, List.sum_cons, h1]
      simp only [ByteArray.size_extract]
      omega
theorem rowsW_snoc (rows : List (List ByteArray)) (r : List ByteArray) : rowsW (rows ++ [r]) = rowsW rows + rowW r := by unfold rowsW; simp
theorem rowsW_take {rows : List (List ByteArray)} {k : Nat} {r : List ByteArray} (h : rows[k]? = some r) : rowsW (rows.take (k + 1)) = rowsW (rows.take k) + rowW r := by
  rw [List.take_add_one, h, Option.toList_some, rowsW_snoc]
theorem rowsW_take_le (rows : List (List ByteArray)) (k : Nat) : rowsW (rows.take k) ≤ rowsW rows := by
  have e : rowsW rows = rowsW (rows.take k) + rowsW (rows.drop k) := by
    unfold rowsW
    rw [← List.sum_append, ← List.map_append, List.take_append_drop]
  omega
theorem rowW_len : ∀ r : List ByteArray, r.length ≤ rowW r
  | [] => Nat.zero_le _
  | t :: r => by
    have := rowW_len r
    unfold rowW at this ⊢
    rw [List.map_cons, List.sum_cons, List.length_cons]
    omega
theorem rowW_mem : ∀ {r : List ByteArray} {t : ByteArray}, t ∈ r → t.size < rowW r
  | u :: r, t, h => by
    unfold rowW
    rw [List.map_cons, List.sum_cons]
    rcases List.mem_cons.1 h with rfl | h
    · omega
    · have := rowW_mem h
      unfold rowW at this
      omega
/-- What splitting a text into rows answers. -/
def SplitR (s : List UInt8) (rows : List (List ByteArray)) (ok : Bool) : Prop := (∀ r ∈ rows, r ≠ []) ∧ (∀ p, IsTx s p → ok = true ∧ rows.map rowD = p.map rowOf) ∧ rowsW rows ≤ s.length
/-- What reading numbers answers. -/
def NumsR (ws : List (List UInt8)) (ns : List Int) (ok : Bool) : Prop := (∀ n ∈ ns, In n) ∧ (∀ ms, (∀ m ∈ ms, In m) → ws = ms.map Lib.itoa → ok = true ∧ ns = ms) ∧ ns.length ≤ ws.length
theorem atoi_itoa {n : Int} (h : In n) : Lib.atoiAll (Lib.itoa n) = .ok n := by rw [← Lib.parseIntB_64]; exact parse_itoa h
/-! ### Numbers off a cursor -/
theorem mid_digit {x : UInt8} (h : mid x = false) : ¬ digit x := fun hd => by
  unfold mid at h
  unfold digit at hd
  rw [Bool.and_eq_false_iff] at h
  have e32 : (32 : UInt8).toNat = 32 := rfl
  have e10 : (10 : UInt8).toNat = 10 := rfl
  rcases h with h | h
  · have : x = 32 := by simpa using h
    subst this
    omega
  · have : x = 10 := by simpa using h
    subst this
    omega
theorem beg_app {a b : List UInt8} (h : a ≠ []) : beg (a ++ b) = beg a := by
  cases a with
  | nil => exact absurd rfl h
  | cons c a => rfl
theorem itoa_ne_nil {n : Int} (h : In n) : Lib.itoa n ≠ [] := fun e => no_empty e n h rfl
theorem itoa_beg_lt {n : Int} (h : In n) : beg (Lib.itoa n) < (Lib.itoa n).length := by
  rcases Nat.lt_or_ge (beg (Lib.itoa n)) (Lib.itoa n).length with k | k
  · exact k
  · exact absurd rfl (no_short k n h)
/-- The greatest numeral that a list begins with ends where a number's text ends. -/
theorem num_end {l : List UInt8} {q : Nat} (hb : beg l ≤ q) (hd : ∀ j c, beg l ≤ j → j < q → l[j]? = some c → digit c) (_hl : q ≤ l.length) (he : ∀ c, l[q]? = some c → ¬ digit c) {n : Int} {x : UInt8} {r : List UInt8} (hn : In n) (hx : mid x = false) (h : l = Lib.itoa n ++ x :: r) : q = (Lib.itoa n).length := by
  have hg : beg l = beg (Lib.itoa n) := by rw [h]; exact beg_app (itoa_ne_nil hn)
  have hlt := itoa_beg_lt hn
  rcases Nat.lt_trichotomy q (Lib.itoa n).length with k | k | k
  · obtain ⟨c, hc⟩ : ∃ c, (Lib.itoa n)[q]? = some c := ⟨_, List.getElem?_eq_getElem k⟩
    refine absurd ?_ (he c (by rw [h, List.getElem?_append_left k]; exact hc))
    refine (body_ok hn rfl).1 c ?_
    have : ((Lib.itoa n).drop (beg (Lib.itoa n)))[q - beg (Lib.itoa n)]? = some c := by
      rw [List.getElem?_drop, show beg (Lib.itoa n) + (q - beg (Lib.itoa n)) = q by omega, hc]
    exact List.mem_of_getElem? this
  · exact k
  · refine absurd (hd (Lib.itoa n).length x (by omega) k ?_) (mid_digit hx)
    rw [h, List.getElem?_append_right (Nat.le_refl _), Nat.sub_self]
    rfl
/-- What the reading of a number off a cursor answers. -/
def NumC (s : List UInt8) (a a' : Nat) (n : Int) (b b' : Bool) : Prop := a ≤ a' ∧ a' ≤ s.length ∧ In n ∧ ((b' = b ∧ s.drop a = Lib.itoa n ++ s.drop a' ∧ ∀ m x r, In m → mid x = false → s.drop a = Lib.itoa m ++ x :: r → m = n) ∨ (b' = true ∧ ∀ m x r, In m → mid x = false → s.drop a ≠ Lib.itoa m ++ x :: r))
theorem NumC.mk {s : List UInt8} {a q : Nat} {b : Bool} (ha : a ≤ s.length) (hb : beg (s.drop a) ≤ q) (hq : a + q ≤ s.length) (hd : ∀ j c, beg (s.drop a) ≤ j → j < q → (s.drop a)[j]? = some c → digit c) (he : ∀ c, s[a + q]? = some c → ¬ digit c) {n : Int} (hn : n = numV ((s.drop a).take q)) {fit : Bool} (hf : fit = true → Lib.itoa n = (s.drop a).take q) (hg : fit = false → ∀ m, In m → (s.drop a).take q ≠ Lib.itoa m) : NumC s a (a + q) n b (b || !fit) := by
  have hin : In n := by rw [hn]; exact numV_in _
  have hl : q ≤ (s.drop a).length := by rw [List.length_drop]; omega
  have hmax : ∀ m x r, In m → mid x = false → s.drop a = Lib.itoa m ++ x :: r → (s.drop a).take q = Lib.itoa m := fun m x r hm hx h => by
    have := num_end hb hd hl (fun c hc => he c (by rw [List.getElem?_drop] at hc; exact hc)) hm hx h
    rw [h, this, List.take_left]
  refine ⟨by omega, hq, hin, ?_⟩
  cases hfit : fit with
  | true =>
    refine .inl ⟨by simp, ?_, fun m x r hm hx h => ?_⟩
    · rw [hf hfit, ← List.drop_drop, List.take_append_drop]
    · exact (itoa_inj hin hm ((hf hfit).trans (hmax m x r hm hx h))).symm
  | false => exact .inr ⟨by simp, fun m x r hm hx h => hg hfit m hm (hmax m x r hm hx h)⟩
/-! ### Words off a cursor -/
theorem let_sep {a a' : List UInt8} {x : UInt8} {l l' : List UInt8} (ha : ∀ c ∈ a, isLet c = true) (ha' : ∀ c ∈ a', isLet c = true) (hx : isLet x = false) (hl : ∀ c, l'.head? = some c → isLet c = false) (h : a ++ x :: l = a' ++ l') : a = a' ∧ x :: l = l' := by
  induction a generalizing a' with
  | nil =>
    cases a' with
    | nil => exact ⟨rfl, by simpa using h⟩
    | cons d a' =>
      simp only [List.nil_append, List.cons_append, List.cons.injEq] at h
      have := ha' d (by simp)
      rw [← h.1, hx] at this
      cases this
  | cons d a ih =>
    cases a' with
    | nil =>
      rw [List.nil_append] at h
      have := hl d (by rw [← h]; rfl)
      rw [ha d (by simp)] at this
      cases this
    | cons d' a' =>
      simp only [List.cons_append, List.cons.injEq] at h
      obtain ⟨e1, e2⟩ := ih (fun c hc => ha c (by simp [hc])) (fun c hc => ha' c (by simp [hc])) h.2
      exact ⟨by rw [h.1, e1], e2⟩
theorem word_let {l : List UInt8} (h : isWordL l = true) : ∀ c ∈ l, isLet c = true := by
  unfold isWordL at h
  rw [Bool.and_eq_true] at h
  exact List.all_eq_true.1 h.2
end Go.Proofs.YtpdlbmieciabmaaGreatDoor
namespace Go.Proofs.YtpdlbmieciabmaaGreatDoor
/-- A string that is passed, or else the text is bad. -/
def NeedC (s x : List UInt8) (a a' : Nat) (b b' : Bool) : Prop := a ≤ a' ∧ a' ≤ s.length ∧ (b = true → b' = true) ∧ (b = false → (b' = false ∧ s.drop a = x ++ s.drop a') ∨ (b' = true ∧ ∀ r, s.drop a ≠ x ++ r))
/-- A string that is passed if it comes next. -/
def SeesC (s x : List UInt8) (a a' : Nat) (b see : Bool) : Prop := a ≤ a' ∧ a' ≤ s.length ∧ (see = true → b = false ∧ s.drop a = x ++ s.drop a') ∧ (see = false → a' = a ∧ (b = false → ∀ r, s.drop a ≠ x ++ r))
/-- Letters that are passed. -/
def WordC (s : List UInt8) (a a' : Nat) (w : List UInt8) : Prop := a ≤ a' ∧ a' ≤ s.length ∧ s.drop a = w ++ s.drop a' ∧ (∀ c ∈ w, isLet c = true) ∧ ∀ c, (s.drop a').head? = some c → isLet c = false
theorem NumC.to {s : List UInt8} {a a' : Nat} {n : Int} {b b' : Bool} (h : NumC s a a' n b b') (hb : b = true) : b' = true := by
  rcases h.2.2.2 with ⟨h1, _⟩ | ⟨h1, _⟩
  · rw [h1, hb]
  · exact h1
theorem drop_cancel {l a b : List UInt8} (h : l ++ a = l ++ b) : a = b := List.append_cancel_left h
/-- A line of a word and a number off a cursor. -/
theorem line_c {s w : List UInt8} {a a1 a2 a3 a4 : Nat} {n : Int} {b1 b2 b3 : Bool} (hw : WordC s a a1 w) (h1 : NeedC s [32] a1 a2 false b1) (h2 : NumC s a2 a3 n b1 b2) (h3 : NeedC s [10] a3 a4 b2 b3) : a ≤ a4 ∧ a4 ≤ s.length ∧ In n ∧ ((b3 = false ∧ s.drop a = w ++ 32 :: (Lib.itoa n ++ 10 :: s.drop a4)) ∨ (b3 = true ∧ ∀ w' m r, (∀ c ∈ w', isLet c = true) → In m → s.drop a ≠ w' ++ 32 :: (Lib.itoa m ++ 10 :: r))) := by
  obtain ⟨l1, _, e1, lw, mw⟩ := hw
  obtain ⟨l2, _, t2, c1⟩ := h1
  obtain ⟨l3, _, hn, c2⟩ := h2
  obtain ⟨l4, k4, t4, c3⟩ := h3
  refine ⟨by omega, k4, hn, ?_⟩
  have sep : ∀ w' m r, (∀ c ∈ w', isLet c = true) → s.drop a = w' ++ 32 :: (Lib.itoa m ++ 10 :: r) → s.drop a1 = 32 :: (Lib.itoa m ++ 10 :: r) := fun w' m r hw' h =>
    (let_sep (x := 32) hw' lw (by decide) mw (h.symm.trans e1)).2.symm
  rcases c1 rfl with ⟨hb1, d1⟩ | ⟨hb1, d1⟩
  · subst hb1
    rcases c2 with ⟨hb2, d2, u2⟩ | ⟨hb2, d2⟩
    · subst hb2
      rcases c3 rfl with ⟨hb3, d3⟩ | ⟨hb3, d3⟩
      · refine .inl ⟨hb3, ?_⟩
        rw [e1, d1, d2, d3]
        rfl
      · refine .inr ⟨hb3, fun w' m r hw' hm h => ?_⟩
        have h1 := sep w' m r hw' h
        rw [d1] at h1
        have h2 : s.drop a2 = Lib.itoa m ++ 10 :: r := by simpa using h1
        have hmn := u2 m 10 r hm rfl h2
        subst hmn
        rw [d2] at h2
        exact d3 r (drop_cancel h2)
    · refine .inr ⟨t4 hb2, fun w' m r hw' hm h => ?_⟩
      have h1 := sep w' m r hw' h
      rw [d1] at h1
      exact d2 m 10 r hm rfl (by simpa using h1)
  · have hb2 : b2 = true := by
      rcases c2 with ⟨h, _⟩ | ⟨h, _⟩
      · rw [h, hb1]
      · exact h
    exact .inr ⟨t4 hb2, fun w' m r hw' _ h => d1 _ (sep w' m r hw' h)⟩
/-! ### Quality texts -/
/-- What the reader of a quality text keeps. -/
def QSt (s : List UInt8) (a : Nat) (es : List En) (bad : Bool) : Prop := a ≤ s.length ∧ (bad = true → ∀ fs, ¬ QRd s fs) ∧ (bad = false → rightL es = true ∧ (∀ e ∈ es, EnIn e ∧ e.price = 0) ∧ s.take a = textG (qLines es))
theorem QSt.new (s : List UInt8) : QSt s 0 [] false := ⟨Nat.zero_le _, fun h => (by cases h), fun _ => ⟨rfl, fun e he => (by cases he), (by simp [qLines, textG])⟩⟩
theorem QSt.full {s : List UInt8} {a : Nat} {es : List En} (h : QSt s a es false) (ha : s.length ≤ a) : QRd s es := by
  obtain ⟨h1, h2, h3⟩ := h.2.2 rfl
  exact ⟨h1, h2, by rw [← h3, List.take_of_length_le ha]⟩
theorem line_word (w : List UInt8) (n : Int) (r : List UInt8) : lineOf (w, [n]) ++ r = w ++ 32 :: (Lib.itoa n ++ 10 :: r) := by
  unfold lineOf lineL wordsN
  simp
/-- The line that comes next in a text that can be read. -/
theorem QSt.next {s : List UInt8} {a : Nat} {es fs : List En} (h : QSt s a es false) (ha : a < s.length) (hq : QRd s fs) : ∃ w n p, qLines fs = qLines es ++ (w, [n]) :: p ∧ isWordL w = true ∧ In n ∧ (es = [] → w = wLot) ∧ s.drop a = w ++ 32 :: (Lib.itoa n ++ 10 :: textG p) := by
  obtain ⟨h1, h2, h3⟩ := h.2.2 rfl
  obtain ⟨k1, k2, k3⟩ := hq
  have hok := qLines_ok k1 (fun e he => (k2 e he).1)
  obtain ⟨p, e1, e2⟩ := textG_pre (r := s.drop a) (qLines_ok h1 (fun e he => (h2 e he).1)) hok (by rw [← h3, ← k3, List.take_append_drop])
  cases p with
  | nil =>
    have := congrArg List.length e2
    rw [List.length_drop] at this
    simp only [textG, List.flatMap_nil, List.length_nil] at this
    omega
  | cons x p =>
    obtain ⟨⟨n, hn⟩, hw⟩ := qLines_line (es := fs) k1 (x := x) (by rw [e1]; simp)
    obtain ⟨w, ns⟩ := x
    subst hn
    refine ⟨w, n, p, e1, hw, (hok (w, [n]) (by rw [e1]; simp)).2 n (by simp), fun he => ?_, ?_⟩
    · subst he
      exact qLines_first (es := fs) (x := (w, [n])) (by rw [e1]; rfl)
    · rw [e2, textG_cons, line_word]
theorem take_more {s x : List UInt8} {a a' : Nat} {r : List UInt8} (_ha : a ≤ s.length) (h : s.drop a = x ++ r) (hr : r = s.drop a') (ha' : a' ≤ s.length) : s.take a' = s.take a ++ x := by
  have e1 : s = (s.take a ++ x) ++ s.drop a' := by rw [List.append_assoc, ← hr, ← h, List.take_append_drop]
  have e2 : (s.take a ++ x).length = a' := by
    have := congrArg List.length e1
    simp only [List.length_append, List.length_drop, List.length_take] at this ⊢
    omega
  have e3 := congrArg (List.take a') e1
  rw [List.take_append_of_le_length (by omega), List.take_of_length_le (Nat.le_of_eq e2)] at e3
  exact e3
theorem take_line {s : List UInt8} {a a' : Nat} {es : List En} {w : List UInt8} {n : Int} (h : QSt s a es false) (ha' : a' ≤ s.length) (hd : s.drop a = w ++ 32 :: (Lib.itoa n ++ 10 :: s.drop a')) : s.take a' = textG (qLines es ++ [(w, [n])]) := by
  rw [← line_word] at hd
  rw [take_more h.1 hd rfl ha', (h.2.2 rfl).2.2, textG_snoc]
theorem QSt.lot {s : List UInt8} {a a' : Nat} {es : List En} {n : Int} (h : QSt s a es false) (ha' : a' ≤ s.length) (hn : In n) (hd : s.drop a = wLot ++ 32 :: (Lib.itoa n ++ 10 :: s.drop a')) : QSt s a' (es ++ [⟨n, 0, []⟩]) false := by
  obtain ⟨h1, h2, _⟩ := h.2.2 rfl
  refine ⟨ha', fun h => (by cases h), fun _ => ⟨?_, fun e he => ?_, ?_⟩⟩
  · unfold rightL at h1 ⊢
    rw [List.all_append, h1]
    rfl
  · rcases List.mem_append.1 he with he | he
    · exact h2 e he
    · obtain rfl := List.mem_singleton.1 he
      exact ⟨⟨hn, (by show In 0; unfold In; omega), fun v hv => (by cases hv)⟩, rfl⟩
  · rw [qLines_lot, take_line h ha' hd]
theorem word_of {w : List UInt8} (h : ∀ c ∈ w, isLet c = true) (hne : w ≠ []) : isWordL w = true := by
  unfold isWordL
  rw [Bool.and_eq_true]
  refine ⟨?_, List.all_eq_true.2 h⟩
  cases w with
  | nil => exact absurd rfl hne
  | cons c w => rfl
theorem QSt.val {s : List UInt8} {a a' : Nat} {es : List En} {e : En} {w : List UInt8} {t : ByteArray} {n : Int} (h : QSt s a (es ++ [e]) false) (ha' : a' ≤ s.length) (hn : In n) (ht : t.data.toList = w) (hl : ∀ c ∈ w, isLet c = true) (hne : w ≠ []) (hlot : w ≠ wLot) (hd : s.drop a = w ++ 32 :: (Lib.itoa n ++ 10 :: s.drop a')) : QSt s a' (es ++ [{ e with values := e.values ++ [⟨t, n⟩] }]) false := by
  obtain ⟨h1, h2, _⟩ := h.2.2 rfl
  have hv := qLines_val es e ⟨t, n⟩
  rw [addL_snoc] at hv
  have hg : goodN w = true := by
    unfold goodN
    rw [Bool.and_eq_true]
    exact ⟨word_of hl hne, bne_iff_ne.2 hlot⟩
  refine ⟨ha', fun h => (by cases h), fun _ => ⟨?_, fun x hx => ?_, ?_⟩⟩
  · unfold rightL at h1 ⊢
    rw [List.all_append, Bool.and_eq_true] at h1 ⊢
    refine ⟨h1.1, ?_⟩
    have h3 := h1.2
    simp only [List.all_cons, List.all_nil, Bool.and_true] at h3 ⊢
    rw [List.all_append, h3, List.all_cons]
    show (true && (goodN t.data.toList && _)) = true
    rw [ht, hg]
    rfl
  · rcases List.mem_append.1 hx with hx | hx
    · exact h2 x (by simp [hx])
    · obtain rfl := List.mem_singleton.1 hx
      obtain ⟨⟨k1, k2, k3⟩, k4⟩ := h2 e (by simp)
      refine ⟨⟨k1, k2, fun v hv => ?_⟩, k4⟩
      rcases List.mem_append.1 hv with hv | hv
      · exact k3 v hv
      · obtain rfl := List.mem_singleton.1 hv
        exact hn
  · rw [hv]
    show _ = textG (_ ++ [(t.data.toList, [n])])
    rw [ht, take_line h ha' hd]
/-- A line that no quality text has. -/
theorem QSt.none {s : List UInt8} {a a' : Nat} {es : List En} {w : List UInt8} {n : Int} (h : QSt s a es false) (ha : a < s.length) (hl : ∀ c ∈ w, isLet c = true) (hd : s.drop a = w ++ 32 :: (Lib.itoa n ++ 10 :: s.drop a')) (hno : w = [] ∨ (es = [] ∧ w ≠ wLot)) : ∀ fs, ¬ QRd s fs := fun fs hq => by
  obtain ⟨w', m, p, _, hw, _, hf, e⟩ := h.next ha hq
  have e1 := (let_sep (x := 32) (word_let hw) hl (by decide) (fun c hc => by simp only [List.head?_cons, Option.some.injEq] at hc; subst hc; decide) (e.symm.trans hd)).1
  subst e1
  rcases hno with rfl | ⟨he, hn⟩
  · cases hw
  · exact hn (hf he)
theorem QSt.bad {s : List UInt8} {a a' : Nat} {es fs : List En} (h : QSt s a es false) (ha : a < s.length) (ha' : a' ≤ s.length) (hb : ∀ w' m r, (∀ c ∈ w', isLet c = true) → In m → s.drop a ≠ w' ++ 32 :: (Lib.itoa m ++ 10 :: r)) : QSt s a' fs true :=
  ⟨ha', fun _ gs hq => (by
    obtain ⟨w', m, p, _, hw, hm, _, e⟩ := h.next ha hq
    exact hb w' m _ (word_let hw) hm e), fun h => (by cases h)⟩
end Go.Proofs.YtpdlbmieciabmaaGreatDoor
namespace Go.Proofs.YtpdlbmieciabmaaGreatDoor
theorem NeedC.go {s x r : List UInt8} {a a' : Nat} {b b' : Bool} (h : NeedC s x a a' b b') (hb : b = false) (e : s.drop a = x ++ r) : b' = false ∧ s.drop a' = r := by
  rcases h.2.2.2 hb with ⟨h1, h2⟩ | ⟨_, h2⟩
  · exact ⟨h1, drop_cancel (h2.symm.trans e)⟩
  · exact absurd e (h2 r)
theorem NeedC.out {s x : List UInt8} {a a' : Nat} {b b' : Bool} (h : NeedC s x a a' b b') (hb : b' = false) : b = false ∧ s.drop a = x ++ s.drop a' := by
  cases hb1 : b with
  | true => rw [h.2.2.1 hb1] at hb; cases hb
  | false =>
    rcases h.2.2.2 hb1 with ⟨_, h2⟩ | ⟨h1, _⟩
    · exact ⟨rfl, h2⟩
    · rw [h1] at hb; cases hb
theorem NumC.go {s r : List UInt8} {x : UInt8} {a a' : Nat} {n m : Int} {b b' : Bool} (h : NumC s a a' n b b') (hb : b = false) (hm : In m) (hx : mid x = false) (e : s.drop a = Lib.itoa m ++ x :: r) : b' = false ∧ n = m ∧ s.drop a' = x :: r := by
  rcases h.2.2.2 with ⟨h1, h2, h3⟩ | ⟨_, h2⟩
  · have := h3 m x r hm hx e
    subst this
    exact ⟨by rw [h1, hb], rfl, drop_cancel (h2.symm.trans e)⟩
  · exact absurd e (h2 m x r hm hx)
theorem NumC.out {s : List UInt8} {a a' : Nat} {n : Int} {b b' : Bool} (h : NumC s a a' n b b') (hb : b' = false) : b = false ∧ In n ∧ s.drop a = Lib.itoa n ++ s.drop a' := by
  rcases h.2.2.2 with ⟨h1, h2, _⟩ | ⟨h1, _⟩
  · exact ⟨by rw [← h1, hb], h.2.2.1, h2⟩
  · rw [h1] at hb; cases hb
/-! ### Lists of numbers -/
/-- What the loop over numbers with blanks in front keeps. -/
def CommI (s : List UInt8) (a cur : Nat) (ns : List Int) (b0 b : Bool) : Prop := a ≤ cur ∧ cur ≤ s.length ∧ (∀ n ∈ ns, In n) ∧ (b0 = true → b = true) ∧ (b0 = false → (b = false ∧ s.drop a = wordsN ns ++ s.drop cur ∧ ∀ ms r, (∀ m ∈ ms, In m) → s.drop a = wordsN ms ++ 10 :: r → ∃ rest, ms = ns ++ rest ∧ s.drop cur = wordsN rest ++ 10 :: r) ∨ (b = true ∧ ∀ ms r, (∀ m ∈ ms, In m) → s.drop a ≠ wordsN ms ++ 10 :: r))
def CommC (s : List UInt8) (a a' : Nat) (ns : List Int) (b b' : Bool) : Prop := a ≤ a' ∧ a' ≤ s.length ∧ (∀ n ∈ ns, In n) ∧ (b = true → b' = true) ∧ (b = false → (b' = false ∧ s.drop a = wordsN ns ++ s.drop a' ∧ ∀ ms r, (∀ m ∈ ms, In m) → s.drop a = wordsN ms ++ 10 :: r → ms = ns) ∨ (b' = true ∧ ∀ ms r, (∀ m ∈ ms, In m) → s.drop a ≠ wordsN ms ++ 10 :: r))
theorem wordsN_app (a b : List Int) : wordsN (a ++ b) = wordsN a ++ wordsN b := by unfold wordsN; simp
theorem CommI.new {s : List UInt8} {a : Nat} (h : a ≤ s.length) (b : Bool) : CommI s a a [] b b :=
  ⟨Nat.le_refl _, h, fun n hn => (by cases hn), id, fun hb => .inl ⟨hb, rfl, fun ms _ _ e => ⟨ms, rfl, e⟩⟩⟩
theorem CommI.step {s : List UInt8} {a cur c1 c2 : Nat} {ns : List Int} {n : Int} {b0 b b' : Bool} (h : CommI s a cur ns b0 b) (hs : SeesC s [32] cur c1 b true) (hn : NumC s c1 c2 n b b') : CommI s a c2 (ns ++ [n]) b0 b' := by
  obtain ⟨l1, _, k1, t1, h1⟩ := h
  obtain ⟨l2, _, s1, _⟩ := hs
  obtain ⟨hb, d1⟩ := s1 rfl
  have l3 := hn.1
  refine ⟨by omega, hn.2.1, fun m hm => ?_, fun hb0 => ?_, fun hb0 => ?_⟩
  · rcases List.mem_append.1 hm with hm | hm
    · exact k1 m hm
    · obtain rfl := List.mem_singleton.1 hm
      exact hn.2.2.1
  · rw [t1 hb0] at hb; cases hb
  · rcases h1 hb0 with ⟨_, d0, u0⟩ | ⟨h2, _⟩
    · cases hb' : b' with
      | false =>
        obtain ⟨_, _, d2⟩ := hn.out hb'
        refine .inl ⟨rfl, ?_, fun ms r hms e => ?_⟩
        · rw [d0, d1, d2, wordsN_app, wordsN_cons]
          simp [wordsN]
        · obtain ⟨rest, e1, e2⟩ := u0 ms r hms e
          cases rest with
          | nil =>
            rw [d1] at e2
            simp only [wordsN, List.flatMap_nil, List.nil_append, List.cons_append, List.cons.injEq] at e2
            exact absurd e2.1 (by decide)
          | cons m rest =>
            rw [d1, wordsN_cons] at e2
            obtain ⟨x, l, w1, wx⟩ := words_head rest r
            have e3 : s.drop c1 = Lib.itoa m ++ x :: l := by
              rw [← w1]
              simpa using e2
            obtain ⟨_, hnm, e4⟩ := hn.go hb (hms m (by rw [e1]; simp)) wx e3
            exact ⟨rest, by rw [e1, hnm]; simp, by rw [e4, w1]⟩
      | true =>
        refine .inr ⟨rfl, fun ms r hms e => ?_⟩
        obtain ⟨rest, e1, e2⟩ := u0 ms r hms e
        cases rest with
        | nil =>
          rw [d1] at e2
          simp only [wordsN, List.flatMap_nil, List.nil_append, List.cons_append, List.cons.injEq] at e2
          exact absurd e2.1 (by decide)
        | cons m rest =>
          rw [d1, wordsN_cons] at e2
          obtain ⟨x, l, w1, wx⟩ := words_head rest r
          have e3 : s.drop c1 = Lib.itoa m ++ x :: l := by
            rw [← w1]
            simpa using e2
          have := (hn.go hb (hms m (by rw [e1]; simp)) wx e3).1
          rw [hb'] at this
          cases this
    · rw [h2] at hb; cases hb
theorem CommI.done {s : List UInt8} {a cur c1 : Nat} {ns : List Int} {b0 b : Bool} (h : CommI s a cur ns b0 b) (hs : SeesC s [32] cur c1 b false) : CommC s a c1 ns b0 b := by
  obtain ⟨l1, l0, k1, t1, h1⟩ := h
  obtain ⟨_, _, _, s1⟩ := hs
  obtain ⟨rfl, s2⟩ := s1 rfl
  refine ⟨l1, l0, k1, t1, fun hb0 => ?_⟩
  rcases h1 hb0 with ⟨hb, d0, u0⟩ | h2
  · refine .inl ⟨hb, d0, fun ms r hms e => ?_⟩
    obtain ⟨rest, e1, e2⟩ := u0 ms r hms e
    cases rest with
    | nil => rw [e1, List.append_nil]
    | cons m rest =>
      rw [wordsN_cons] at e2
      exact absurd e2 (s2 hb _)
  · exact .inr h2
theorem CommC.go {s r : List UInt8} {a a' : Nat} {ns ms : List Int} {b b' : Bool} (h : CommC s a a' ns b b') (hb : b = false) (hm : ∀ m ∈ ms, In m) (e : s.drop a = wordsN ms ++ 10 :: r) : b' = false ∧ ns = ms ∧ s.drop a' = 10 :: r := by
  rcases h.2.2.2.2 hb with ⟨h1, h2, h3⟩ | ⟨_, h2⟩
  · have := h3 ms r hm e
    subst this
    exact ⟨h1, rfl, drop_cancel (h2.symm.trans e)⟩
  · exact absurd e (h2 ms r hm)
theorem CommC.out {s : List UInt8} {a a' : Nat} {ns : List Int} {b b' : Bool} (h : CommC s a a' ns b b') (hb : b' = false) : b = false ∧ s.drop a = wordsN ns ++ s.drop a' := by
  cases hb1 : b with
  | true => rw [h.2.2.2.1 hb1] at hb; cases hb
  | false =>
    rcases h.2.2.2.2 hb1 with ⟨_, h2, _⟩ | ⟨h1, _⟩
    · exact ⟨rfl, h2⟩
    · rw [h1] at hb; cases hb
/-! ### Hexadecimal texts -/
/-- The value of a hexadecimal digit, -1 for other bytes. -/
def dgt (c : UInt8) : Int := if 48 ≤ c.toNat ∧ c.toNat ≤ 57 then (c.toNat : Int) - 48 else if 97 ≤ c.toNat ∧ c.toNat ≤ 102 then (c.toNat : Int) - 87 else -1
theorem dgt_hexC {n : Nat} (h : n < 16) : dgt (hexC n) = n := by
  unfold dgt
  rw [hexC_nat h]
  by_cases hn : n < 10
  · rw [if_pos hn, if_pos (by omega)]; omega
  · rw [if_neg hn, if_neg (by omega), if_pos (by omega)]; omega
theorem dgt_lt (c : UInt8) : -1 ≤ dgt c ∧ dgt c < 16 := by
  unfold dgt
  split
  · omega
  · split <;> omega
theorem dgt_back {c : UInt8} (h : 0 ≤ dgt c) : hexC (dgt c).toNat = c := by
  have l := dgt_lt c
  refine UInt8.toNat_inj.1 ?_
  rw [hexC_nat (by omega)]
  unfold dgt at h ⊢
  split
  · rw [if_pos (by omega)]; omega
  · rename_i h1
    rw [if_neg h1] at h
    split
    · rw [if_neg (by omega)]; omega
    · rename_i h2
      rw [if_neg h2] at h
      omega
theorem hexL_app (a b : List UInt8) : hexL (a ++ b) = hexL a ++ hexL b := by
  induction a with
  | nil => rfl
  | cons c a ih => simp only [List.cons_append, hexL, ih]
/-- The byte of two digits. -/
def twoD (x y : UInt8) : UInt8 := UInt8.ofNat (16 * (dgt x).toNat + (dgt y).toNat)
theorem twoD_nat {x y : UInt8} (hx : 0 ≤ dgt x) (hy : 0 ≤ dgt y) : (twoD x y).toNat = 16 * (dgt x).toNat + (dgt y).toNat := by
  have := dgt_lt x
  have := dgt_lt y
  unfold twoD
  rw [UInt8.toNat_ofNat']
  omega
theorem hexL_two {x y : UInt8} (hx : 0 ≤ dgt x) (hy : 0 ≤ dgt y) : hexL [twoD x y] = [x, y] := by
  have lx := dgt_lt x
  have ly := dgt_lt y
  have h1 := twoD_nat hx hy
  simp only [hexL]
  rw [h1, show (16 * (dgt x).toNat + (dgt y).toNat) / 16 = (dgt x).toNat by omega, show (16 * (dgt x).toNat + (dgt y).toNat) % 16 = (dgt y).toNat by omega, dgt_back hx, dgt_back hy]
theorem hex_dgt (c : UInt8) : 0 ≤ dgt (hexC (c.toNat / 16)) ∧ 0 ≤ dgt (hexC (c.toNat % 16)) ∧ twoD (hexC (c.toNat / 16)) (hexC (c.toNat % 16)) = c := by
  have l := c.toNat_lt
  have h1 := dgt_hexC (n := c.toNat / 16) (by omega)
  have h2 := dgt_hexC (n := c.toNat % 16) (by omega)
  refine ⟨by omega, by omega, UInt8.toNat_inj.1 ?_⟩
  rw [twoD_nat (by omega) (by omega), h1, h2]
  omega
theorem hex_mid {l : List UInt8} : ∀ c ∈ hexL l, mid c = true := by
  have key : ∀ n : Fin 16, mid (hexC n.val) = true := by decide
  induction l with
  | nil => intro c hc; cases hc
  | cons d l ih =>
    intro c hc
    have hd := d.toNat_lt
    simp only [hexL, List.mem_cons] at hc
    rcases hc with rfl | rfl | hc
    · exact key ⟨d.toNat / 16, by omega⟩
    · exact key ⟨d.toNat % 16, by omega⟩
    · exact ih c hc
/-- What the loop over pairs of digits keeps, and what it answers. -/
def BytI (s : List UInt8) (a cur : Nat) (t : List UInt8) : Prop := a ≤ cur ∧ cur ≤ s.length ∧ s.drop a = hexL t ++ s.drop cur ∧ ∀ t' r, s.drop a = hexL t' ++ 10 :: r → ∃ rest, t' = t ++ rest ∧ s.drop cur = hexL rest ++ 10 :: r
def BytC (s : List UInt8) (a a' : Nat) (t : List UInt8) : Prop := a ≤ a' ∧ a' ≤ s.length ∧ s.drop a = hexL t ++ s.drop a' ∧ ∀ t' r, s.drop a = hexL t' ++ 10 :: r → t' = t
theorem BytI.new {s : List UInt8} {a : Nat} (h : a ≤ s.length) : BytI s a a [] := ⟨Nat.le_refl _, h, rfl, fun t' _ e => ⟨t', rfl, e⟩⟩
theorem drop_two {s : List UInt8} {k : Nat} {x y : UInt8} (hx : s[k]? = some x) (hy : s[k + 1]? = some y) : s.drop k = x :: y :: s.drop (k + 2) := by
  obtain ⟨h1, e1⟩ := List.getElem?_eq_some_iff.1 hx
  obtain ⟨h2, e2⟩ := List.getElem?_eq_some_iff.1 hy
  rw [List.drop_eq_getElem_cons h1, List.drop_eq_getElem_cons h2, e1, e2]
theorem BytI.step {s t : List UInt8} {a cur : Nat} {x y : UInt8} (h : BytI s a cur t) (hx : s[cur]? = some x) (hy : s[cur + 1]? = some y) (dx : 0 ≤ dgt x) (dy : 0 ≤ dgt y) : BytI s a (cur + 2) (t ++ [twoD x y]) := by
  obtain ⟨l1, l2, e1, u1⟩ := h
  have hl := (List.getElem?_eq_some_iff.1 hy).1
  have hd := drop_two hx hy
  refine ⟨by omega, by omega, ?_, fun t' r e => ?_⟩
  · rw [e1, hd, hexL_app, hexL_two dx dy]
    simp
  · obtain ⟨rest, e2, e3⟩ := u1 t' r e
    cases rest with
    | nil =>
      rw [hd] at e3
      simp only [hexL, List.nil_append, List.cons.injEq] at e3
      rw [e3.1] at dx
      exact absurd dx (by decide)
    | cons c rest =>
      rw [hd] at e3
      simp only [hexL, List.cons_append, List.cons.injEq] at e3
      obtain ⟨a1, a2, a3⟩ := e3
      refine ⟨rest, ?_, a3⟩
      rw [a1, a2, (hex_dgt c).2.2, e2]
      simp
theorem BytI.done {s t : List UInt8} {a cur : Nat} (h : BytI s a cur t) (hs : ∀ x y, s[cur]? = some x → s[cur + 1]? = some y → ¬ (0 ≤ dgt x ∧ 0 ≤ dgt y)) : BytC s a cur t := by
  obtain ⟨l1, l2, e1, u1⟩ := h
  refine ⟨l1, l2, e1, fun t' r e => ?_⟩
  obtain ⟨rest, e2, e3⟩ := u1 t' r e
  cases rest with
  | nil => rw [e2, List.append_nil]
  | cons c rest =>
    simp only [hexL, List.cons_append] at e3
    have hx : s[cur]? = some (hexC (c.toNat / 16)) := by
      have := congrArg (fun l => l[0]?) e3
      simpa [List.getElem?_drop] using this
    have hy : s[cur + 1]? = some (hexC (c.toNat % 16)) := by
      have := congrArg (fun l => l[1]?) e3
      simpa [List.getElem?_drop] using this
    exact absurd ⟨(hex_dgt c).1, (hex_dgt c).2.1⟩ (hs _ _ hx hy)
theorem BytC.go {s t t' r : List UInt8} {a a' : Nat} (h : BytC s a a' t) (e : s.drop a = hexL t' ++ 10 :: r) : t = t' ∧ s.drop a' = 10 :: r := by
  have := h.2.2.2 t' r e
  subst this
  exact ⟨rfl, drop_cancel (h.2.2.1.symm.trans e)⟩
/-! ### Bids -/
def bLines (b : Bd) : List Ln := [(wBid, [b.bidder]), (wQuality, b.qc), (hexL b.qt.data.toList, []), (wPrice, b.pc), (hexL b.pt.data.toList, [])]
theorem encB_text (b : Bd) : encB b = textG (bLines b) := by
  unfold encB bLines textG lineOf
  simp
def BRd (s : List UInt8) (b : Bd) : Prop := (In b.bidder ∧ (∀ n ∈ b.qc, In n) ∧ ∀ n ∈ b.pc, In n) ∧ s = encB b
theorem bLines_ok {s : List UInt8} {b : Bd} (h : BRd s b) : ∀ x ∈ bLines b, LineOk x := fun x hx => by
  obtain ⟨⟨h1, h2, h3⟩, _⟩ := h
  unfold bLines at hx
  simp only [List.mem_cons, List.not_mem_nil, or_false] at hx
  rcases hx with rfl | rfl | rfl | rfl | rfl
  · exact ⟨(by decide : ∀ c ∈ wBid, mid c = true), fun n hn => by obtain rfl := List.mem_singleton.1 hn; exact h1⟩
  · exact ⟨(by decide : ∀ c ∈ wQuality, mid c = true), h2⟩
  · exact ⟨hex_mid, fun n hn => (by cases hn)⟩
  · exact ⟨(by decide : ∀ c ∈ wPrice, mid c = true), h3⟩
  · exact ⟨hex_mid, fun n hn => (by cases hn)⟩
theorem BRd.tx {s : List UInt8} {b : Bd} (h : BRd s b) : IsTx s (bLines b) := ⟨bLines_ok h, by rw [h.2, encB_text]⟩
theorem ba_ext {a b : ByteArray} (h : a.data.toList = b.data.toList) : a = b := by
  cases a; cases b
  simp only at h
  rw [ByteArray.mk.injEq]
  exact Array.toList_inj.1 h
theorem bLines_inj {a b : Bd} (h : bLines a = bLines b) : a = b := by
  unfold bLines at h
  simp only [List.cons.injEq, Prod.mk.injEq, true_and, and_true] at h
  obtain ⟨h1, h2, h3, h4, h5⟩ := h
  have h6 := ba_ext (hexL_inj h3)
  have h7 := ba_ext (hexL_inj h5)
  cases a; cases b
  simp_all
theorem BRd.inj {s : List UInt8} {a b : Bd} (h : BRd s a) (k : BRd s b) : a = b := bLines_inj (h.tx.inj k.tx)
/-- A whole bid off a cursor. -/
theorem dec_c {s : List UInt8} {n : Int} {qc pc : List Int} {qt pt : ByteArray} {a1 a2 a3 a4 a5 a6 a7 a8 a9 a10 a11 : Nat} {b1 b2 b3 b4 b5 b7 b8 b9 b11 : Bool}
    (h1 : NeedC s [98, 105, 100, 32] 0 a1 false b1) (h2 : NumC s a1 a2 n b1 b2) (h3 : NeedC s (10 :: wQuality) a2 a3 b2 b3) (h4 : CommC s a3 a4 qc b3 b4) (h5 : NeedC s [10] a4 a5 b4 b5) (h6 : BytC s a5 a6 qt.data.toList) (h7 : NeedC s (10 :: wPrice) a6 a7 b5 b7) (h8 : CommC s a7 a8 pc b7 b8) (h9 : NeedC s [10] a8 a9 b8 b9) (h10 : BytC s a9 a10 pt.data.toList) (h11 : NeedC s [10] a10 a11 b9 b11) :
    (b11 = false → a11 = s.length → BRd s ⟨n, qt, qc, pt, pc⟩) ∧ ∀ d, BRd s d → b11 = false ∧ a11 = s.length ∧ d = ⟨n, qt, qc, pt, pc⟩ := by
  refine ⟨fun hb ha => ?_, fun d hd => ?_⟩
  · obtain ⟨k9, e11⟩ := h11.out hb
    obtain ⟨k8, e9⟩ := h9.out k9
    obtain ⟨k7, e8⟩ := h8.out k8
    obtain ⟨k5, e7⟩ := h7.out k7
    obtain ⟨k4, e5⟩ := h5.out k5
    obtain ⟨k3, e4⟩ := h4.out k4
    obtain ⟨k2, e3⟩ := h3.out k3
    obtain ⟨k1, hn, e2⟩ := h2.out k2
    obtain ⟨_, e1⟩ := h1.out k1
    have e6 := h6.2.2.1
    have e10 := h10.2.2.1
    refine ⟨⟨hn, h4.2.2.1, h8.2.2.1⟩, ?_⟩
    have e0 : s.drop a11 = [] := List.drop_eq_nil_of_le (by omega)
    have e : s = s.drop 0 := rfl
    rw [e, e1, e2, e3, e4, e5, e6, e7, e8, e9, e10, e11, e0]
    unfold encB lineL
    simp only [wordsN, List.flatMap_cons, List.flatMap_nil, List.append_nil, List.append_assoc, List.cons_append, List.nil_append]
    rfl
  · obtain ⟨⟨k1, k2, k3⟩, es⟩ := hd
    have e0 : s.drop 0 = [98, 105, 100, 32] ++ (Lib.itoa d.bidder ++ 10 :: (wQuality ++ (wordsN d.qc ++ 10 :: (hexL d.qt.data.toList ++ 10 :: (wPrice ++ (wordsN d.pc ++ 10 :: (hexL d.pt.data.toList ++ [10]))))))) := by
      rw [List.drop_zero, es]
      unfold encB lineL
      simp only [wordsN, List.flatMap_cons, List.flatMap_nil, List.append_nil, List.append_assoc, List.cons_append, List.nil_append]
      rfl
    obtain ⟨c1, d1⟩ := h1.go rfl e0
    obtain ⟨c2, m2, d2⟩ := h2.go c1 k1 mid10 d1
    obtain ⟨c3, d3⟩ := h3.go c2 d2
    obtain ⟨c4, m4, d4⟩ := h4.go c3 k2 d3
    obtain ⟨c5, d5⟩ := h5.go (r := hexL d.qt.data.toList ++ 10 :: (wPrice ++ (wordsN d.pc ++ 10 :: (hexL d.pt.data.toList ++ [10])))) c4 d4
    obtain ⟨m6, d6⟩ := h6.go d5
    obtain ⟨c7, d7⟩ := h7.go (r := wordsN d.pc ++ 10 :: (hexL d.pt.data.toList ++ [10])) c5 d6
    obtain ⟨c8, m8, d8⟩ := h8.go c7 k3 d7
    obtain ⟨c9, d9⟩ := h9.go (r := hexL d.pt.data.toList ++ [10]) c8 d8
    obtain ⟨m10, d10⟩ := h10.go d9
    obtain ⟨c11, d11⟩ := h11.go (r := []) c9 d10
    have hl := congrArg List.length d11
    rw [List.length_drop, List.length_nil] at hl
    refine ⟨c11, by have := h11.2.1; omega, ?_⟩
    cases d
    simp only [Bd.mk.injEq]
    exact ⟨m2.symm, ba_ext m6.symm, m4.symm, ba_ext m10.symm, m8.symm⟩
/-! ### Price texts -/
def PSt (s : List UInt8) (a : Nat) (es : List En) (rs : List Rb) (bad : Bool) : Prop := a ≤ s.length ∧ (bad = true → ∀ fs us, ¬ PRd s fs us) ∧ (bad = false → (∀ e ∈ es, EnIn e ∧ e.values = []) ∧ (∀ r ∈ rs, RbIn r) ∧ s.take a = pricL es rs)
theorem PSt.new (s : List UInt8) : PSt s 0 [] [] false := ⟨Nat.zero_le _, fun h => (by cases h), fun _ => ⟨fun e he => (by cases he), fun e he => (by cases he), (by simp [pricL, pLines, textG])⟩⟩
theorem PSt.full {s : List UInt8} {a : Nat} {es : List En} {rs : List Rb} (h : PSt s a es rs false) (ha : s.length ≤ a) : PRd s es rs := by
  obtain ⟨h1, h2, h3⟩ := h.2.2 rfl
  exact ⟨h1, h2, by rw [← h3, List.take_of_length_le ha]⟩
theorem lot_last : ∀ {fs es : List En} {us rs : List Rb} {e : En} {p : List Ln}, pLines fs us = pLines es rs ++ pLine e :: p → rs = []
  | [], es, us, rs, e, p, h => by
    have hm : pLine e ∈ pLines [] us := by rw [h]; simp
    unfold pLines at hm
    simp only [List.map_nil, List.nil_append, List.mem_map] at hm
    obtain ⟨r, _, hr⟩ := hm
    exact absurd (congrArg Prod.fst hr).symm lot_rebate
  | f :: fs, [], us, [], e, p, h => rfl
  | f :: fs, [], us, r :: rs, e, p, h => by
    simp only [pLines, List.map_nil, List.nil_append, List.map_cons, List.cons_append, List.cons.injEq] at h
    exact absurd (congrArg Prod.fst h.1) lot_rebate
  | f :: fs, x :: es, us, rs, e, p, h => by
    have h2 : pLines fs us = pLines es rs ++ pLine e :: p := by
      simp only [pLines, List.map_cons, List.cons_append, List.cons.injEq, List.append_assoc] at h ⊢
      exact h.2
    exact lot_last h2
theorem PSt.next {s : List UInt8} {a : Nat} {es fs : List En} {rs us : List Rb} (h : PSt s a es rs false) (ha : a < s.length) (hq : PRd s fs us) : (rs = [] ∧ ∃ n m r, In n ∧ In m ∧ s.drop a = lineOf (wLot, [n, m]) ++ r) ∨ ∃ n ns r, In n ∧ (∀ k ∈ ns, In k) ∧ s.drop a = lineOf (wRebate, n :: ns) ++ r := by
  obtain ⟨h1, h2, h3⟩ := h.2.2 rfl
  obtain ⟨k1, k2, k3⟩ := hq
  have hok := pLines_ok (fun e he => (k1 e he).1) k2
  obtain ⟨p, e1, e2⟩ := textG_pre (r := s.drop a) (pLines_ok (fun e he => (h1 e he).1) h2) hok (by
    show pricL fs us = pricL es rs ++ _
    rw [← h3, ← k3, List.take_append_drop])
  cases p with
  | nil =>
    have := congrArg List.length e2
    rw [List.length_drop] at this
    simp only [textG, List.flatMap_nil, List.length_nil] at this
    omega
  | cons x p =>
    have hx : x ∈ pLines fs us := by rw [e1]; simp
    have hxo := hok x hx
    rw [textG_cons] at e2
    rcases List.mem_append.1 hx with hx | hx
    · obtain ⟨e, _, rfl⟩ := List.mem_map.1 hx
      exact .inl ⟨lot_last e1, e.lot, e.price, textG p, hxo.2 _ (by simp [pLine]), hxo.2 _ (by simp [pLine]), e2⟩
    · obtain ⟨r, _, rfl⟩ := List.mem_map.1 hx
      exact .inr ⟨r.pc, r.lots, textG p, hxo.2 _ (by simp [rLine]), fun k hk => hxo.2 k (by simp [rLine, hk]), e2⟩
theorem PSt.lot {s : List UInt8} {a a' : Nat} {es : List En} {n m : Int} (h : PSt s a es [] false) (ha' : a' ≤ s.length) (hn : In n) (hm : In m) (hd : s.drop a = lineOf (wLot, [n, m]) ++ s.drop a') : PSt s a' (es ++ [⟨n, m, []⟩]) [] false := by
  obtain ⟨h1, h2, h3⟩ := h.2.2 rfl
  refine ⟨ha', fun h => (by cases h), fun _ => ⟨fun e he => ?_, h2, ?_⟩⟩
  · rcases List.mem_append.1 he with he | he
    · exact h1 e he
    · obtain rfl := List.mem_singleton.1 he
      exact ⟨⟨hn, hm, fun v hv => (by cases hv)⟩, rfl⟩
  · rw [take_more h.1 hd rfl ha', h3]
    unfold pricL
    rw [pLines_lot, textG_snoc]
theorem PSt.reb {s : List UInt8} {a a' : Nat} {es : List En} {rs : List Rb} {n : Int} {ns : List Int} (h : PSt s a es rs false) (ha' : a' ≤ s.length) (hn : In n) (hns : ∀ k ∈ ns, In k) (hd : s.drop a = lineOf (wRebate, n :: ns) ++ s.drop a') : PSt s a' es (rs ++ [⟨ns, n⟩]) false := by
  obtain ⟨h1, h2, h3⟩ := h.2.2 rfl
  refine ⟨ha', fun h => (by cases h), fun _ => ⟨h1, fun r hr => ?_, ?_⟩⟩
  · rcases List.mem_append.1 hr with hr | hr
    · exact h2 r hr
    · obtain rfl := List.mem_singleton.1 hr
      exact ⟨hn, hns⟩
  · rw [take_more h.1 hd rfl ha', h3]
    unfold pricL
    rw [pLines_reb, textG_snoc]
    rfl
theorem lot_line (n m : Int) (r : List UInt8) : lineOf (wLot, [n, m]) ++ r = [108, 111, 116, 32] ++ (Lib.itoa n ++ 32 :: (Lib.itoa m ++ 10 :: r)) := by
  unfold lineOf lineL wordsN wLot
  simp
theorem reb_line (n : Int) (ns : List Int) (r : List UInt8) : lineOf (wRebate, n :: ns) ++ r = [114, 101, 98, 97, 116, 101, 32] ++ (Lib.itoa n ++ (wordsN ns ++ 10 :: r)) := by
  unfold lineOf lineL wRebate
  rw [wordsN_cons]
  simp
/-- A line of a lot and its price off a cursor. -/
theorem lot_c {s : List UInt8} {a a1 a2 a3 a4 a5 : Nat} {n m : Int} {b2 b3 b4 b5 : Bool} (h1 : SeesC s [108, 111, 116, 32] a a1 false true) (h2 : NumC s a1 a2 n false b2) (h3 : NeedC s [32] a2 a3 b2 b3) (h4 : NumC s a3 a4 m b3 b4) (h5 : NeedC s [10] a4 a5 b4 b5) : a ≤ a5 ∧ a5 ≤ s.length ∧ In n ∧ In m ∧ ((b5 = false ∧ s.drop a = lineOf (wLot, [n, m]) ++ s.drop a5) ∨ (b5 = true ∧ ∀ n' m' r, In n' → In m' → s.drop a ≠ lineOf (wLot, [n', m']) ++ r)) := by
  obtain ⟨l1, _, s1, _⟩ := h1
  obtain ⟨_, e1⟩ := s1 rfl
  have l2 := h2.1
  have l3 := h3.1
  have l4 := h4.1
  have l5 := h5.1
  refine ⟨by omega, h5.2.1, h2.2.2.1, h4.2.2.1, ?_⟩
  cases hb : b5 with
  | false =>
    obtain ⟨k4, e5⟩ := h5.out hb
    obtain ⟨k3, _, e4⟩ := h4.out k4
    obtain ⟨k2, e3⟩ := h3.out k3
    obtain ⟨_, _, e2⟩ := h2.out k2
    refine .inl ⟨rfl, ?_⟩
    rw [lot_line, e1, e2, e3, e4, e5]
    simp
  | true =>
    refine .inr ⟨rfl, fun n' m' r hn hm e => ?_⟩
    rw [lot_line, e1] at e
    obtain ⟨c2, _, d2⟩ := h2.go rfl hn mid32 (drop_cancel e)
    obtain ⟨c3, d3⟩ := h3.go (r := Lib.itoa m' ++ 10 :: r) c2 d2
    obtain ⟨c4, _, d4⟩ := h4.go c3 hm mid10 d3
    obtain ⟨c5, _⟩ := h5.go (r := r) c4 d4
    rw [hb] at c5
    cases c5
/-- A line of a rebate off a cursor. -/
theorem reb_c {s : List UInt8} {a a1 a2 a3 a4 : Nat} {n : Int} {ns : List Int} {b1 b2 b3 b4 : Bool} (h1 : NeedC s [114, 101, 98, 97, 116, 101, 32] a a1 false b1) (h2 : NumC s a1 a2 n b1 b2) (h3 : CommC s a2 a3 ns b2 b3) (h4 : NeedC s [10] a3 a4 b3 b4) : a ≤ a4 ∧ a4 ≤ s.length ∧ In n ∧ (∀ k ∈ ns, In k) ∧ ((b4 = false ∧ s.drop a = lineOf (wRebate, n :: ns) ++ s.drop a4) ∨ (b4 = true ∧ ∀ n' ns' r, In n' → (∀ k ∈ ns', In k) → s.drop a ≠ lineOf (wRebate, n' :: ns') ++ r)) := by
  have l1 := h1.1
  have l2 := h2.1
  have l3 := h3.1
  have l4 := h4.1
  refine ⟨by omega, h4.2.1, h2.2.2.1, h3.2.2.1, ?_⟩
  cases hb : b4 with
  | false =>
    obtain ⟨k3, e4⟩ := h4.out hb
    obtain ⟨k2, e3⟩ := h3.out k3
    obtain ⟨k1, _, e2⟩ := h2.out k2
    obtain ⟨_, e1⟩ := h1.out k1
    refine .inl ⟨rfl, ?_⟩
    rw [reb_line, e1, e2, e3, e4]
    simp
  | true =>
    refine .inr ⟨rfl, fun n' ns' r hn hns e => ?_⟩
    rw [reb_line] at e
    obtain ⟨c1, d1⟩ := h1.go rfl e
    obtain ⟨x, l, w1, wx⟩ := words_head ns' r
    rw [w1] at d1
    obtain ⟨c2, _, d2⟩ := h2.go c1 hn wx d1
    rw [← w1] at d2
    obtain ⟨c3, _, d3⟩ := h3.go c2 hns d2
    obtain ⟨c4, _⟩ := h4.go (r := r) c3 d3
    rw [hb] at c4
    cases c4
/-- A line of a lot: what is kept. -/
theorem PSt.lot_any {s : List UInt8} {a a1 a' : Nat} {es : List En} {rs : List Rb} {n m : Int} {b : Bool} (h : PSt s a es rs false) (ha : a < s.length) (hs : SeesC s [108, 111, 116, 32] a a1 false true) (ha' : a' ≤ s.length) (hn : In n) (hm : In m) (hc : (b = false ∧ s.drop a = lineOf (wLot, [n, m]) ++ s.drop a') ∨ (b = true ∧ ∀ n' m' r, In n' → In m' → s.drop a ≠ lineOf (wLot, [n', m']) ++ r)) : PSt s a' (es ++ [⟨n, m, []⟩]) rs (b || !rs.isEmpty) := by
  have no : ∀ n ns r, s.drop a ≠ lineOf (wRebate, n :: ns) ++ r := fun n' ns r e => by
    have e1 := (hs.2.2.1 rfl).2
    rw [reb_line] at e
    have := e1.symm.trans e
    simp at this
  cases hr : rs with
  | cons r rs' =>
    have hbad : ∀ fs us, ¬ PRd s fs us := fun fs us hq => by
      rcases h.next ha hq with ⟨e, _⟩ | ⟨n', ns, r', _, _, e⟩
      · rw [hr] at e; cases e
      · exact no _ _ _ e
    exact ⟨ha', fun _ => hbad, fun hf => by simp at hf⟩
  | nil =>
    rcases hc with ⟨rfl, hd⟩ | ⟨rfl, hno⟩
    · subst hr
      exact h.lot ha' hn hm hd
    · exact ⟨ha', fun _ fs us hq => (by
        rcases h.next ha hq with ⟨_, n', m', r', h1, h2, e⟩ | ⟨n', ns, r', _, _, e⟩
        · exact hno _ _ _ h1 h2 e
        · exact no _ _ _ e), fun hf => by simp at hf⟩
/-- A line of a rebate: what is kept. -/
theorem PSt.reb_any {s : List UInt8} {a a1 a' : Nat} {es : List En} {rs : List Rb} {n : Int} {ns : List Int} {b : Bool} (h : PSt s a es rs false) (ha : a < s.length) (hs : SeesC s [108, 111, 116, 32] a a1 false false) (ha' : a' ≤ s.length) (hn : In n) (hns : ∀ k ∈ ns, In k) (hc : (b = false ∧ s.drop a = lineOf (wRebate, n :: ns) ++ s.drop a') ∨ (b = true ∧ ∀ n' ns' r, In n' → (∀ k ∈ ns', In k) → s.drop a ≠ lineOf (wRebate, n' :: ns') ++ r)) : PSt s a' es (rs ++ [⟨ns, n⟩]) b := by
  rcases hc with ⟨rfl, hd⟩ | ⟨rfl, hno⟩
  · exact h.reb ha' hn hns hd
  · exact ⟨ha', fun _ fs us hq => (by
      rcases h.next ha hq with ⟨_, n', m', r', h1, h2, e⟩ | ⟨n', ns', r', h1, h2, e⟩
      · rw [lot_line] at e
        exact (hs.2.2.2 rfl).2 rfl _ e
      · exact hno _ _ _ h1 h2 e), fun hf => by cases hf⟩
end Go.Proofs.YtpdlbmieciabmaaGreatDoor
namespace Go.Proofs.YtpdlbmieciabmaaGreatDoor
/-- An entry by numbers, and a content by numbers. -/
structure Li where
  lot : Int
  price : Int
  values : List (Int × Int)
structure Of where
  entries : List Li
  rebates : List (List Int)
def nameN : Nat → List UInt8
  | 0 => [100, 97, 121, 115]
  | 1 => [115, 116, 97, 102, 102]
  | 2 => [115, 105, 122, 101]
  | 3 => [113, 117, 97, 108, 105, 116, 121]
  | 4 => [97]
  | 5 => [100, 97, 121, 115]
  | 6 => [108, 111, 116]
  | 7 => [116, 119, 111, 32, 119, 111, 114, 100, 115]
  | 8 => []
  | _ => [65]
def nameT (n : Int) : ByteArray := ⟨(nameN (n % 10).toNat).toArray⟩
def mkV (wild : Bool) (p : Int × Int) : Vl := ⟨nameT (if wild then p.1 else p.1 % 6), p.2⟩
def mkE (wild : Bool) (l : Li) : En := ⟨l.lot, l.price, (l.values.take 5).map (mkV wild)⟩
def mkEs (wild : Bool) (o : Of) : List En := (o.entries.take 6).map (mkE wild)
def mkR (r : List Int) : Rb := ⟨r.tail.take 5, r.headD 0⟩
def mkRs (o : Of) : List Rb := (o.rebates.take 4).map mkR
structure Of.Ok (o : Of) : Prop where
  ent : ∀ l ∈ o.entries, In l.lot ∧ In l.price ∧ ∀ v ∈ l.values, In v.1 ∧ In v.2
  reb : ∀ r ∈ o.rebates, ∀ n ∈ r, In n
theorem mkE_in {l : Li} (h : In l.lot ∧ In l.price ∧ ∀ v ∈ l.values, In v.1 ∧ In v.2) (wild : Bool) : EnIn (mkE wild l) :=
  ⟨h.1, h.2.1, fun v hv => by
    obtain ⟨p, hp, rfl⟩ := List.mem_map.1 hv
    exact (h.2.2 p (List.mem_of_mem_take hp)).2⟩
theorem mkEs_in {o : Of} (h : o.Ok) (wild : Bool) : ∀ e ∈ mkEs wild o, EnIn e := fun e he => by
  obtain ⟨l, hl, rfl⟩ := List.mem_map.1 he
  exact mkE_in (h.ent l (List.mem_of_mem_take hl)) wild
theorem mkR_in {r : List Int} (h : ∀ n ∈ r, In n) : RbIn (mkR r) := by
  cases r with
  | nil => exact ⟨by show In 0; unfold In; omega, fun n hn => by cases hn⟩
  | cons a r => exact ⟨h a (by simp), fun n hn => h n (by simp only [mkR, List.tail_cons] at hn; simp [List.mem_of_mem_take hn])⟩
theorem mkRs_in {o : Of} (h : o.Ok) : ∀ r ∈ mkRs o, RbIn r := fun r hr => by
  obtain ⟨l, hl, rfl⟩ := List.mem_map.1 hr
  exact mkR_in (h.reb l (List.mem_of_mem_take hl))
theorem name_good : ∀ k : Fin 6, goodN (nameN k.val) = true := by decide
theorem name_short (k : Nat) : (nameN k).length ≤ 9 := by
  unfold nameN
  split <;> decide
theorem mod_six (n : Int) : (n % 6 % 10).toNat < 6 := by omega
theorem mkEs_right (o : Of) : rightL (mkEs false o) = true := by
  unfold rightL mkEs
  refine List.all_eq_true.2 fun e he => List.all_eq_true.2 fun v hv => ?_
  obtain ⟨l, _, rfl⟩ := List.mem_map.1 he
  obtain ⟨p, _, rfl⟩ := List.mem_map.1 hv
  exact name_good ⟨(p.1 % 6 % 10).toNat, mod_six p.1⟩
theorem mkV_name (wild : Bool) (p : Int × Int) : (mkV wild p).name.size ≤ 9 := by
  show (nameT _).size ≤ 9
  have h : ∀ m : Int, (nameT m).size = (nameN (m % 10).toNat).length := fun m => by
    show (nameN (m % 10).toNat).toArray.size = _
    rw [List.size_toArray]
  rw [h]
  exact name_short _
theorem mkEs_len (wild : Bool) (o : Of) : (mkEs wild o).length ≤ 6 := by unfold mkEs; rw [List.length_map, List.length_take]; omega
theorem mkE_vals (wild : Bool) (l : Li) : (mkE wild l).values.length ≤ 5 := by show ((l.values.take 5).map (mkV wild)).length ≤ 5; rw [List.length_map, List.length_take]; omega
theorem mkRs_len (o : Of) : (mkRs o).length ≤ 4 := by unfold mkRs; rw [List.length_map, List.length_take]; omega
theorem mkR_lots (r : List Int) : (mkR r).lots.length ≤ 5 := by show (r.tail.take 5).length ≤ 5; rw [List.length_take]; omega
end Go.Proofs.YtpdlbmieciabmaaGreatDoor
namespace Go.Proofs.YtpdlbmieciabmaaGreatDoor
theorem QRd.tx {s : List UInt8} {fs : List En} (h : QRd s fs) : IsTx s (qLines fs) := ⟨qLines_ok h.1 (fun e he => (h.2.1 e he).1), h.2.2⟩
theorem PRd.tx {s : List UInt8} {fs : List En} {us : List Rb} (h : PRd s fs us) : IsTx s (pLines fs us) := ⟨pLines_ok (fun e he => (h.1 e he).1) h.2.1, h.2.2⟩
/-- A row of the text is that of its line. -/
theorem row_line {s : List UInt8} {p : List Ln} {rows : List (List ByteArray)} {ok : Bool} (hs : SplitR s rows ok) (hp : IsTx s p) {k : Nat} {r : List ByteArray} (hr : rows[k]? = some r) : ∃ x, p[k]? = some x ∧ rowD r = rowOf x := by
  obtain ⟨_, e⟩ := hs.2.1 p hp
  have h1 : (rows.map rowD)[k]? = some (rowD r) := by rw [List.getElem?_map, hr]; rfl
  rw [e, List.getElem?_map] at h1
  cases hx : p[k]? with
  | none => rw [hx] at h1; cases h1
  | some x =>
    rw [hx] at h1
    simp only [Option.map_some, Option.some.injEq] at h1
    exact ⟨x, rfl, h1.symm⟩
theorem rows_len {s : List UInt8} {p : List Ln} {rows : List (List ByteArray)} {ok : Bool} (hs : SplitR s rows ok) (hp : IsTx s p) : rows.length = p.length := by
  have := congrArg List.length (hs.2.1 p hp).2
  simpa using this
/-- A row's word and numbers. -/
theorem row_nums {s : List UInt8} {p : List Ln} {rows : List (List ByteArray)} {ok fine : Bool} (hs : SplitR s rows ok) (hp : IsTx s p) {k : Nat} {t : ByteArray} {r : List ByteArray} (hr : rows[k]? = some (t :: r)) {ns : List Int} (hn : NumsR (rowD r) ns fine) : fine = true ∧ p[k]? = some (t.data.toList, ns) := by
  obtain ⟨⟨w, ms⟩, hx, e⟩ := row_line hs hp hr
  unfold rowD rowOf at e
  simp only [List.map_cons, List.cons.injEq] at e
  have hok := hp.1 (w, ms) (List.mem_of_getElem? hx)
  obtain ⟨h1, h2⟩ := hn.2.1 ms hok.2 e.2
  rw [h2, e.1]
  exact ⟨h1, hx⟩
/-! ### Quality texts -/
/-- What the reader keeps behind so many rows. -/
def QI (s : List UInt8) (k : Nat) (es : List En) : Prop := (∀ e ∈ es, EnIn e ∧ e.price = 0) ∧ ∀ fs, QRd s fs → es = bld ((qLines fs).take k)
theorem QI.new (s : List UInt8) : QI s 0 [] := ⟨fun e he => (by cases he), fun fs _ => by simp [bld]⟩
theorem QI.lot {s : List UInt8} {k : Nat} {es : List En} {rows : List (List ByteArray)} {ok : Bool} (h : QI s k es) (hs : SplitR s rows ok) {t : ByteArray} {r : List ByteArray} (hr : rows[k]? = some (t :: r)) {n : Int} {fine : Bool} (hn : NumsR (rowD r) [n] fine) (ht : t.data.toList = wLot) : QI s (k + 1) (es ++ [⟨n, 0, []⟩]) := by
  refine ⟨fun e he => ?_, fun fs hq => ?_⟩
  · rcases List.mem_append.1 he with he | he
    · exact h.1 e he
    · obtain rfl := List.mem_singleton.1 he
      exact ⟨⟨hn.1 n (by simp), (by show In 0; unfold In; omega), fun v hv => (by cases hv)⟩, rfl⟩
  · have hx := (row_nums hs hq.tx hr hn).2
    rw [bld_take hx, ← h.2 fs hq]
    unfold qStep
    rw [if_pos ht]
    rfl
theorem QI.val {s : List UInt8} {k : Nat} {es : List En} {e : En} {rows : List (List ByteArray)} {ok : Bool} (h : QI s k (es ++ [e])) (hs : SplitR s rows ok) {t : ByteArray} {r : List ByteArray} (hr : rows[k]? = some (t :: r)) {n : Int} {fine : Bool} (hn : NumsR (rowD r) [n] fine) (ht : t.data.toList ≠ wLot) : QI s (k + 1) (es ++ [{ e with values := e.values ++ [⟨t, n⟩] }]) := by
  refine ⟨fun x hx => ?_, fun fs hq => ?_⟩
  · rcases List.mem_append.1 hx with hx | hx
    · exact h.1 x (by simp [hx])
    · obtain rfl := List.mem_singleton.1 hx
      obtain ⟨⟨k1, k2, k3⟩, k4⟩ := h.1 e (by simp)
      refine ⟨⟨k1, k2, fun v hv => ?_⟩, k4⟩
      rcases List.mem_append.1 hv with hv | hv
      · exact k3 v hv
      · obtain rfl := List.mem_singleton.1 hv
        exact hn.1 n (by simp)
  · have hx := (row_nums hs hq.tx hr hn).2
    rw [bld_take hx, ← h.2 fs hq]
    unfold qStep
    rw [if_neg ht, addL_snoc]
    rfl
theorem QI.no {s : List UInt8} {k : Nat} {es : List En} {rows : List (List ByteArray)} {ok : Bool} (h : QI s k es) (hs : SplitR s rows ok) {t : ByteArray} {r : List ByteArray} (hr : rows[k]? = some (t :: r)) {ns : List Int} {fine : Bool} (hn : NumsR (rowD r) ns fine) (hno : fine = false ∨ ns.length ≠ 1 ∨ (t.data.toList ≠ wLot ∧ es = [])) : ∀ fs, ¬ QRd s fs := fun fs hq => by
  obtain ⟨h1, hx⟩ := row_nums hs hq.tx hr hn
  obtain ⟨⟨n, hl⟩, _⟩ := qLines_line hq.1 (List.mem_of_getElem? hx)
  rcases hno with e | e | ⟨e1, e2⟩
  · rw [h1] at e; cases e
  · rw [show ns = [n] from hl] at e
    exact e rfl
  · have he := h.2 fs hq
    rw [e2] at he
    cases k with
    | zero => exact e1 (qLines_first hx)
    | succ k =>
      have h0 : 0 < (qLines fs).length := by
        have := (List.getElem?_eq_some_iff.1 hx).1
        omega
      obtain ⟨y, hy⟩ : ∃ y, (qLines fs)[0]? = some y := ⟨_, List.getElem?_eq_getElem h0⟩
      have hb : ∀ (p : List Ln) (acc : List En), acc ≠ [] → p.foldl qStep acc ≠ [] := by
        intro p
        induction p with
        | nil => intro acc ha; exact ha
        | cons z p ih =>
          intro acc ha
          rw [List.foldl_cons]
          refine ih _ ?_
          unfold qStep
          split
          · simp
          · obtain ⟨a, b, hab⟩ : ∃ a b, acc = a ++ [b] := ⟨acc.dropLast, acc.getLast ha, (List.dropLast_concat_getLast ha).symm⟩
            rw [hab, addL_snoc]
            simp
      have hc : (qLines fs).take (k + 1) = y :: (qLines fs).tail.take k := by
        cases hq2 : qLines fs with
        | nil => rw [hq2] at h0; simp at h0
        | cons a l =>
          rw [hq2] at hy
          simp only [List.getElem?_cons_zero, Option.some.injEq] at hy
          subst hy
          rfl
      rw [hc] at he
      unfold bld at he
      rw [List.foldl_cons] at he
      refine hb _ _ ?_ he.symm
      unfold qStep
      rw [if_pos (qLines_first hy)]
      simp
/-- At the end. -/
theorem QI.all {s : List UInt8} {es : List En} {rows : List (List ByteArray)} {ok : Bool} (hs : SplitR s rows ok) (h : QI s rows.length es) : (rightL es = true → s = qualL es → QRd s es) ∧ ∀ fs, QRd s fs → ok = true ∧ rightL es = true ∧ s = qualL es ∧ fs = es := by
  refine ⟨fun h1 h2 => ⟨h1, h.1, ?_⟩, fun fs hq => ?_⟩
  · unfold qualL at h2
    rw [if_pos h1] at h2
    exact h2
  · have he := h.2 fs hq
    rw [rows_len hs hq.tx, List.take_of_length_le (Nat.le_refl _), bld_q hq.1 (fun e he => (hq.2.1 e he).2)] at he
    subst he
    refine ⟨(hs.2.1 _ hq.tx).1, hq.1, ?_, rfl⟩
    unfold qualL
    rw [if_pos hq.1]
    exact hq.2.2
/-! ### Price texts -/
def PI (s : List UInt8) (k : Nat) (es : List En) (rs : List Rb) : Prop := (∀ e ∈ es, EnIn e ∧ e.values = []) ∧ (∀ r ∈ rs, RbIn r) ∧ ∀ fs us, PRd s fs us → es = fs.take k ∧ rs = us.take (k - fs.length)
theorem PI.new (s : List UInt8) : PI s 0 [] [] := ⟨fun e he => (by cases he), fun e he => (by cases he), fun fs us _ => by simp⟩
theorem pLines_at {fs : List En} {us : List Rb} {k : Nat} {x : Ln} (h : (pLines fs us)[k]? = some x) : (∃ e, fs[k]? = some e ∧ x = pLine e) ∨ (fs.length ≤ k ∧ ∃ r, us[k - fs.length]? = some r ∧ x = rLine r) := by
  unfold pLines at h
  rcases Nat.lt_or_ge k fs.length with hk | hk
  · rw [List.getElem?_append_left (by rw [List.length_map]; exact hk), List.getElem?_map] at h
    cases he : fs[k]? with
    | none => rw [he] at h; cases h
    | some e =>
      rw [he] at h
      simp only [Option.map_some, Option.some.injEq] at h
      exact .inl ⟨e, rfl, h.symm⟩
  · rw [List.getElem?_append_right (by rw [List.length_map]; exact hk), List.getElem?_map, List.length_map] at h
    cases hr : us[k - fs.length]? with
    | none => rw [hr] at h; cases h
    | some r =>
      rw [hr] at h
      simp only [Option.map_some, Option.some.injEq] at h
      exact .inr ⟨hk, r, rfl, h.symm⟩
theorem PI.lot {s : List UInt8} {k : Nat} {es : List En} {rs : List Rb} {rows : List (List ByteArray)} {ok : Bool} (h : PI s k es rs) (hs : SplitR s rows ok) {t : ByteArray} {r : List ByteArray} (hr : rows[k]? = some (t :: r)) {n m : Int} {fine : Bool} (hn : NumsR (rowD r) [n, m] fine) (ht : t.data.toList = wLot) : PI s (k + 1) (es ++ [⟨n, m, []⟩]) rs := by
  refine ⟨fun e he => ?_, h.2.1, fun fs us hq => ?_⟩
  · rcases List.mem_append.1 he with he | he
    · exact h.1 e he
    · obtain rfl := List.mem_singleton.1 he
      exact ⟨⟨hn.1 n (by simp), hn.1 m (by simp), fun v hv => (by cases hv)⟩, rfl⟩
  · have hx := (row_nums hs hq.tx hr hn).2
    obtain ⟨h1, h2⟩ := h.2.2 fs us hq
    rcases pLines_at hx with ⟨e, he, e1⟩ | ⟨_, u, _, e1⟩
    · have hk := (List.getElem?_eq_some_iff.1 he).1
      have e2 := congrArg Prod.snd e1
      simp only [pLine, List.cons.injEq, and_true] at e2
      have hv := (hq.1 e (List.mem_of_getElem? he)).2
      refine ⟨?_, ?_⟩
      · rw [List.take_add_one, he, ← h1]
        have : (⟨n, m, []⟩ : En) = e := by cases e; simp_all
        rw [this]
        rfl
      · rw [h2, show k - fs.length = 0 by omega, show k + 1 - fs.length = 0 by omega]
    · have e2 := congrArg Prod.fst e1
      rw [show (t.data.toList, [n, m]).1 = wLot from ht] at e2
      exact absurd e2 lot_rebate
theorem PI.reb {s : List UInt8} {k : Nat} {es : List En} {rs : List Rb} {rows : List (List ByteArray)} {ok : Bool} (h : PI s k es rs) (hs : SplitR s rows ok) {t : ByteArray} {r : List ByteArray} (hr : rows[k]? = some (t :: r)) {n : Int} {ns : List Int} {fine : Bool} (hn : NumsR (rowD r) (n :: ns) fine) (ht : t.data.toList = wRebate) : PI s (k + 1) es (rs ++ [⟨ns, n⟩]) := by
  refine ⟨h.1, fun u hu => ?_, fun fs us hq => ?_⟩
  · rcases List.mem_append.1 hu with hu | hu
    · exact h.2.1 u hu
    · obtain rfl := List.mem_singleton.1 hu
      exact ⟨hn.1 n (by simp), fun x hx => hn.1 x (by simp [hx])⟩
  · have hx := (row_nums hs hq.tx hr hn).2
    obtain ⟨h1, h2⟩ := h.2.2 fs us hq
    rcases pLines_at hx with ⟨e, _, e1⟩ | ⟨hk, u, hu, e1⟩
    · have e2 := congrArg Prod.fst e1
      rw [show (t.data.toList, n :: ns).1 = wRebate from ht] at e2
      exact absurd e2.symm lot_rebate
    · have e2 := congrArg Prod.snd e1
      simp only [rLine, List.cons.injEq] at e2
      refine ⟨by rw [h1, List.take_of_length_le hk, List.take_of_length_le (by omega)], ?_⟩
      rw [show k + 1 - fs.length = k - fs.length + 1 by omega, List.take_add_one, hu, ← h2]
      have : (⟨ns, n⟩ : Rb) = u := by cases u; simp_all
      rw [this]
      rfl
theorem PI.no {s : List UInt8} {k : Nat} {rows : List (List ByteArray)} {ok : Bool} (hs : SplitR s rows ok) {t : ByteArray} {r : List ByteArray} (hr : rows[k]? = some (t :: r)) {ns : List Int} {fine : Bool} (hn : NumsR (rowD r) ns fine) (hno : fine = false ∨ ns.length = 0 ∨ (¬ (t.data.toList = wLot ∧ ns.length = 2) ∧ t.data.toList ≠ wRebate)) : ∀ fs us, ¬ PRd s fs us := fun fs us hq => by
  obtain ⟨h1, hx⟩ := row_nums hs hq.tx hr hn
  rcases hno with e | e | ⟨e1, e2⟩
  · rw [h1] at e; cases e
  · rcases pLines_at hx with ⟨x, _, ex⟩ | ⟨_, x, _, ex⟩
    · have := congrArg Prod.snd ex
      rw [show (t.data.toList, ns).2 = [] from List.eq_nil_of_length_eq_zero e] at this
      cases this
    · have := congrArg Prod.snd ex
      rw [show (t.data.toList, ns).2 = [] from List.eq_nil_of_length_eq_zero e] at this
      cases this
  · rcases pLines_at hx with ⟨x, _, ex⟩ | ⟨_, x, _, ex⟩
    · simp only [pLine, Prod.mk.injEq] at ex
      exact e1 ⟨ex.1, by rw [ex.2]; rfl⟩
    · exact e2 (congrArg Prod.fst ex)
theorem PI.all {s : List UInt8} {es : List En} {rs : List Rb} {rows : List (List ByteArray)} {ok : Bool} (hs : SplitR s rows ok) (h : PI s rows.length es rs) : (s = pricL es rs → PRd s es rs) ∧ ∀ fs us, PRd s fs us → ok = true ∧ s = pricL es rs ∧ fs = es ∧ us = rs := by
  refine ⟨fun h1 => ⟨h.1, h.2.1, h1⟩, fun fs us hq => ?_⟩
  obtain ⟨h1, h2⟩ := h.2.2 fs us hq
  have hl := rows_len hs hq.tx
  have hl2 : (pLines fs us).length = fs.length + us.length := by unfold pLines; simp
  rw [List.take_of_length_le (by omega)] at h1
  rw [List.take_of_length_le (by omega)] at h2
  subst h1
  subst h2
  exact ⟨(hs.2.1 _ hq.tx).1, hq.2.2, rfl, rfl⟩
/-! ### Bids -/
/-- What the reading of a hexadecimal form answers. -/
def PlainR (l : List UInt8) (t : ByteArray) (ok : Bool) : Prop := ∀ x, l = hexL x → ok = true ∧ t.data.toList = x
theorem dec_rows {s : List UInt8} {r0 r1 r2 r3 r4 : List ByteArray} {ok : Bool} {t0 t1 t2 t3 t4 qt pt : ByteArray} {n qc pc : List Int} {a b c d f : Bool} (hs : SplitR s [t0 :: r0, t1 :: r1, t2 :: r2, t3 :: r3, t4 :: r4] ok) (h0 : NumsR (rowD r0) n a) (h1 : NumsR (rowD r1) qc b) (h2 : PlainR t2.data.toList qt c) (h3 : NumsR (rowD r3) pc d) (h4 : PlainR t4.data.toList pt f) : ∀ x, BRd s x → ok = true ∧ a = true ∧ b = true ∧ c = true ∧ d = true ∧ f = true ∧ n = [x.bidder] ∧ qc = x.qc ∧ qt = x.qt ∧ pc = x.pc ∧ pt = x.pt := fun x hx => by
  obtain ⟨e1, e2⟩ := row_nums hs hx.tx (k := 0) rfl h0
  obtain ⟨e3, e4⟩ := row_nums hs hx.tx (k := 1) rfl h1
  obtain ⟨e5, e6⟩ := row_nums hs hx.tx (k := 3) rfl h3
  obtain ⟨y2, g2, k2⟩ := row_line hs hx.tx (k := 2) rfl
  obtain ⟨y4, g4, k4⟩ := row_line hs hx.tx (k := 4) rfl
  simp only [bLines, List.getElem?_cons_zero, List.getElem?_cons_succ, Option.some.injEq, Prod.mk.injEq] at e2 e4 e6 g2 g4
  subst g2 g4
  unfold rowD rowOf at k2 k4
  simp only [List.map_cons, List.cons.injEq] at k2 k4
  obtain ⟨m1, m2⟩ := h2 _ k2.1
  obtain ⟨m3, m4⟩ := h4 _ k4.1
  exact ⟨(hs.2.1 _ hx.tx).1, e1, e3, m1, e5, m3, e2.2.symm, e4.2.symm, ba_ext m2, e6.2.symm, ba_ext m4⟩
theorem dec_rows_no {s : List UInt8} {rows : List (List ByteArray)} {ok : Bool} (hs : SplitR s rows ok) (h : ok = false ∨ rows.length ≠ 5) : ∀ x, ¬ BRd s x := fun x hx => by
  rcases h with h | h
  · rw [(hs.2.1 _ hx.tx).1] at h; cases h
  · exact h (rows_len hs hx.tx)
/-- A hexadecimal form by pairs. -/
theorem hex_pair {x : List UInt8} {k : Nat} (hk : k < x.length) : ∃ c, x[k]? = some c ∧ (hexL x)[2 * k]? = some (hexC (c.toNat / 16)) ∧ (hexL x)[2 * k + 1]? = some (hexC (c.toNat % 16)) := by
  induction x generalizing k with
  | nil => simp at hk
  | cons d x ih =>
    cases k with
    | zero => exact ⟨d, rfl, rfl, rfl⟩
    | succ k =>
      obtain ⟨c, h1, h2, h3⟩ := ih (k := k) (by simpa using hk)
      refine ⟨c, by simpa using h1, ?_, ?_⟩
      · rw [show 2 * (k + 1) = 2 * k + 1 + 1 by omega]
        simpa [hexL] using h2
      · rw [show 2 * (k + 1) + 1 = 2 * k + 1 + 1 + 1 by omega]
        simpa [hexL] using h3
/-! ### Room -/
theorem line_room {w : List UInt8} {ns : List Int} (h : ∀ n ∈ ns, In n) : (lineOf (w, ns)).length ≤ w.length + 22 * ns.length + 1 := by
  have key : ∀ l : List Int, (∀ n ∈ l, In n) → (wordsN l).length ≤ 22 * l.length := by
    intro l
    induction l with
    | nil => intro _; simp [wordsN]
    | cons n l ih =>
      intro hl
      obtain ⟨h0, h1⟩ := hl n (by simp)
      have := itoa_len h0 h1
      have := ih (fun m hm => hl m (by simp [hm]))
      rw [wordsN_cons]
      simp only [List.length_cons, List.length_append]
      omega
  have := key ns h
  unfold lineOf lineL
  simp only [List.length_append, List.length_singleton]
  omega
theorem row_room {t : ByteArray} {r : List ByteArray} {ns : List Int} {fine : Bool} (hn : NumsR (rowD r) ns fine) : (lineOf (t.data.toList, ns)).length ≤ 24 * rowW (t :: r) := by
  have h1 := line_room (w := t.data.toList) hn.1
  have h2 := hn.2.2
  have h3 := rowW_len r
  have h4 : (rowD r).length = r.length := by unfold rowD; rw [List.length_map]
  have h5 : rowW (t :: r) = t.size + 1 + rowW r := by unfold rowW; rw [List.map_cons, List.sum_cons]
  rw [← size_list] at h1
  omega
/-- The text of what was kept is not long. -/
def QB (rows : List (List ByteArray)) (k : Nat) (es : List En) : Prop := (textG (qLines es)).length ≤ 24 * rowsW (rows.take k)
theorem QB.new (rows : List (List ByteArray)) : QB rows 0 [] := by simp [QB, qLines, textG]
theorem QB.lot {rows : List (List ByteArray)} {k : Nat} {es : List En} (h : QB rows k es) {t : ByteArray} {r : List ByteArray} (hr : rows[k]? = some (t :: r)) {n : Int} {fine : Bool} (hn : NumsR (rowD r) [n] fine) (ht : t.data.toList = wLot) : QB rows (k + 1) (es ++ [⟨n, 0, []⟩]) := by
  have h1 := row_room (t := t) hn
  unfold QB at h ⊢
  rw [rowsW_take hr, qLines_lot, textG_snoc, List.length_append]
  rw [ht] at h1
  omega
theorem QB.val {rows : List (List ByteArray)} {k : Nat} {es : List En} {e : En} (h : QB rows k (es ++ [e])) {t : ByteArray} {r : List ByteArray} (hr : rows[k]? = some (t :: r)) {n : Int} {fine : Bool} (hn : NumsR (rowD r) [n] fine) : QB rows (k + 1) (es ++ [{ e with values := e.values ++ [⟨t, n⟩] }]) := by
  have h1 := row_room (t := t) hn
  have h2 := qLines_val es e ⟨t, n⟩
  rw [addL_snoc] at h2
  unfold QB at h ⊢
  rw [rowsW_take hr, h2, textG_snoc, List.length_append]
  show _ + (lineOf (t.data.toList, [n])).length ≤ _
  omega
theorem textG_len_app (p q : List Ln) : (textG (p ++ q)).length = (textG p).length + (textG q).length := by rw [textG_app, List.length_append]
def PB (rows : List (List ByteArray)) (k : Nat) (es : List En) (rs : List Rb) : Prop := (pricL es rs).length ≤ 24 * rowsW (rows.take k)
theorem PB.new (rows : List (List ByteArray)) : PB rows 0 [] [] := by simp [PB, pricL, pLines, textG]
theorem PB.lot {rows : List (List ByteArray)} {k : Nat} {es : List En} {rs : List Rb} (h : PB rows k es rs) {t : ByteArray} {r : List ByteArray} (hr : rows[k]? = some (t :: r)) {n m : Int} {fine : Bool} (hn : NumsR (rowD r) [n, m] fine) (ht : t.data.toList = wLot) : PB rows (k + 1) (es ++ [⟨n, m, []⟩]) rs := by
  have h1 := row_room (t := t) hn
  have e : (textG [(wLot, [n, m])]).length = (lineOf (wLot, [n, m])).length := by simp [textG]
  unfold PB pricL pLines at h ⊢
  rw [textG_len_app] at h
  rw [rowsW_take hr, List.map_append, textG_len_app, textG_len_app]
  show _ + (textG [(wLot, [n, m])]).length + _ ≤ _
  rw [ht] at h1
  omega
theorem PB.reb {rows : List (List ByteArray)} {k : Nat} {es : List En} {rs : List Rb} (h : PB rows k es rs) {t : ByteArray} {r : List ByteArray} (hr : rows[k]? = some (t :: r)) {n : Int} {ns : List Int} {fine : Bool} (hn : NumsR (rowD r) (n :: ns) fine) (ht : t.data.toList = wRebate) : PB rows (k + 1) es (rs ++ [⟨ns, n⟩]) := by
  have h1 := row_room (t := t) hn
  unfold PB pricL at h ⊢
  rw [rowsW_take hr, pLines_reb, textG_snoc, List.length_append]
  show _ + (lineOf (wRebate, n :: ns)).length ≤ _
  rw [ht] at h1
  omega
/-- What a text of contents holds is not more than it is long. -/
theorem textG_ge : ∀ p : List Ln, p.length ≤ (textG p).length
  | [] => Nat.zero_le _
  | x :: p => by
    have := textG_ge p
    have := List.length_pos_iff.2 (lineOf_ne x)
    rw [textG_cons, List.length_append, List.length_cons]
    omega
theorem textG_mem : ∀ {p : List Ln} {x : Ln}, x ∈ p → x.1.length < (textG p).length
  | y :: p, x, h => by
    rw [textG_cons, List.length_append]
    rcases List.mem_cons.1 h with rfl | h
    · unfold lineOf lineL
      simp only [List.length_append, List.length_singleton]
      omega
    · have := textG_mem h
      omega
theorem qLines_ge (es : List En) : es.length ≤ (qLines es).length := by
  induction es with
  | nil => exact Nat.zero_le _
  | cons e es ih =>
    have e1 : qLines (e :: es) = eLines e ++ qLines es := by unfold qLines; simp
    have : 1 ≤ (eLines e).length := by unfold eLines; simp
    rw [e1, List.length_append, List.length_cons]
    omega
theorem qLines_vals {es : List En} {e : En} (h : e ∈ es) : e.values.length < (qLines es).length := by
  induction es with
  | nil => cases h
  | cons f es ih =>
    have e1 : qLines (f :: es) = eLines f ++ qLines es := by unfold qLines; simp
    rw [e1, List.length_append]
    rcases List.mem_cons.1 h with rfl | h
    · unfold eLines
      simp only [List.length_cons, List.length_map]
      omega
    · have := ih h
      omega
end Go.Proofs.YtpdlbmieciabmaaGreatDoor
namespace Go.Proofs.YtpdlbmieciabmaaGreatDoor
theorem sees_yes {s x : List UInt8} {a : Nat} (ha : a + x.length ≤ s.length) (h : (s.drop a).take x.length = x) : SeesC s x a (a + x.length) false true :=
  ⟨by omega, ha, fun _ => ⟨rfl, by rw [← List.drop_drop]; conv => lhs; rw [← List.take_append_drop x.length (s.drop a), h]⟩, fun e => (by cases e)⟩
theorem sees_no {s x : List UInt8} {a : Nat} {b : Bool} (hl : a ≤ s.length) (h : b = true ∨ s.length < a + x.length ∨ (s.drop a).take x.length ≠ x) : SeesC s x a a b false := by
  refine ⟨Nat.le_refl _, hl, fun e => (by cases e), fun _ => ⟨rfl, fun hb r e => ?_⟩⟩
  rcases h with h | h | h
  · rw [hb] at h; cases h
  · have := congrArg List.length e
    rw [List.length_drop, List.length_append] at this
    omega
  · rw [e, List.take_left] at h
    exact h rfl
theorem SeesC.need {s x : List UInt8} {a a' : Nat} {b see : Bool} (h : SeesC s x a a' b see) : NeedC s x a a' b (b || !see) := by
  obtain ⟨h1, h2, h3, h4⟩ := h
  refine ⟨h1, h2, fun hb => by rw [hb]; rfl, fun hb => ?_⟩
  subst hb
  cases see with
  | true => exact .inl ⟨rfl, (h3 rfl).2⟩
  | false => exact .inr ⟨rfl, (h4 rfl).2 rfl⟩
theorem ext_take (s : ByteArray) (a n : Nat) : (s.extract a (a + n)).data.toList = (s.data.toList.drop a).take n := by
  rw [Lib.extract_data]
  simp
theorem ext_eq {s x : ByteArray} {a : Nat} : (s.extract a (a + x.size) = x) ↔ (s.data.toList.drop a).take x.data.toList.length = x.data.toList := by
  rw [← ext_take, ← size_list]
  exact ⟨fun h => by rw [h], fun h => ba_ext h⟩
/-- Letters passed one by one. -/
def WordI (s : List UInt8) (a cur : Nat) : Prop := a ≤ cur ∧ cur ≤ s.length ∧ ∀ c ∈ (s.drop a).take (cur - a), isLet c = true
theorem WordI.new {s : List UInt8} {a : Nat} (h : a ≤ s.length) : WordI s a a := ⟨Nat.le_refl _, h, fun c hc => by rw [Nat.sub_self] at hc; cases hc⟩
theorem WordI.step {s : List UInt8} {a cur : Nat} {c : UInt8} (h : WordI s a cur) (hc : s[cur]? = some c) (hl : isLet c = true) : WordI s a (cur + 1) := by
  obtain ⟨h1, h2, h3⟩ := h
  have h4 := (List.getElem?_eq_some_iff.1 hc).1
  refine ⟨by omega, h4, fun d hd => ?_⟩
  have h5 : (s.drop a)[cur - a]? = some c := by rw [List.getElem?_drop, show a + (cur - a) = cur by omega, hc]
  rw [show cur + 1 - a = cur - a + 1 by omega, List.take_add_one, h5, Option.toList_some] at hd
  rcases List.mem_append.1 hd with hd | hd
  · exact h3 d hd
  · obtain rfl := List.mem_singleton.1 hd
    exact hl
theorem WordI.done {s : List UInt8} {a cur : Nat} (h : WordI s a cur) (he : ∀ c, s[cur]? = some c → isLet c = false) : WordC s a cur ((s.drop a).take (cur - a)) := by
  obtain ⟨h1, h2, h3⟩ := h
  refine ⟨h1, h2, ?_, h3, fun c hc => he c (by rw [List.head?_drop] at hc; exact hc)⟩
  have e : s.drop cur = (s.drop a).drop (cur - a) := by rw [List.drop_drop, show a + (cur - a) = cur by omega]
  rw [e, List.take_append_drop]
/-! ### Numbers -/
theorem beg_take {l : List UInt8} {q : Nat} (hb : beg l ≤ q) : beg (l.take q) = beg l := by
  cases q with
  | zero =>
    have h0 : beg l = 0 := by omega
    rw [h0]
    rfl
  | succ q =>
    cases l with
    | nil => rfl
    | cons c l => rfl
theorem upTo_take {l : List UInt8} {b q : Nat} : upTo (l.take q) b q = upTo l b q := by
  unfold upTo
  have e : ((l.take q).drop b).take (q - b) = (l.drop b).take (q - b) := by
    rw [List.drop_take, List.take_take, Nat.min_self]
  rw [e]
theorem numV_take {l : List UInt8} {q : Nat} (hb : beg l ≤ q) (hq : q ≤ l.length) : (beg l = 0 → IntKind.i64.wrap (-upTo l (beg l) q) = numV (l.take q)) ∧ (beg l ≠ 0 → upTo l (beg l) q = numV (l.take q)) := by
  have h := upTo_all (l := l.take q)
  rw [beg_take hb, List.length_take, Nat.min_eq_left hq, upTo_take] at h
  exact h
/-- How the reading of a number ends, by its tests. -/
theorem num_fit {l : List UInt8} {q : Nat} (hb : beg l ≤ q) (hq : q ≤ l.length) {n : Int} (hn : n = numV (l.take q)) (h : q - beg l = 0 ∨ 19 < q - beg l ∨ Lib.itoa n ≠ l.take q) : ∀ m, In m → l.take q ≠ Lib.itoa m := by
  have hl : (l.take q).length = q := by rw [List.length_take]; omega
  rcases h with h | h | h
  · exact no_short (by rw [beg_take hb, hl]; omega)
  · exact no_long (by rw [beg_take hb, hl]; omega)
  · exact no_text (by rw [← hn]; exact h)
/-! ### Texts written line by line -/
theorem textG_len_app' (p q : List Ln) : (textG (p ++ q)).length = (textG p).length + (textG q).length := by rw [textG_app, List.length_append]
theorem take_snoc {α : Type} {l : List α} {k : Nat} {x : α} (h : l[k]? = some x) : l.take (k + 1) = l.take k ++ [x] := by rw [List.take_add_one, h]; rfl
theorem q_text_snoc {es : List En} {k : Nat} {e : En} (h : es[k]? = some e) : textG (qLines (es.take (k + 1))) = textG (qLines (es.take k)) ++ lineOf (wLot, [e.lot]) ++ textG (e.values.map vLine) := by
  rw [take_snoc h]
  unfold qLines eLines
  rw [List.flatMap_append, textG_app]
  simp only [List.flatMap_cons, List.flatMap_nil, List.append_nil]
  rw [textG_cons, List.append_assoc]
theorem v_text_snoc {vs : List Vl} {j : Nat} {v : Vl} (h : vs[j]? = some v) : textG ((vs.take (j + 1)).map vLine) = textG ((vs.take j).map vLine) ++ lineOf (vLine v) := by
  rw [take_snoc h, List.map_append, textG_app]
  simp [textG]
theorem p_text_snoc {es : List En} {k : Nat} {e : En} (h : es[k]? = some e) : textG ((es.take (k + 1)).map pLine) = textG ((es.take k).map pLine) ++ lineOf (pLine e) := by
  rw [take_snoc h, List.map_append, textG_app]
  simp [textG]
theorem r_text_snoc {rs : List Rb} {k : Nat} {r : Rb} (h : rs[k]? = some r) : textG ((rs.take (k + 1)).map rLine) = textG ((rs.take k).map rLine) ++ lineOf (rLine r) := by
  rw [take_snoc h, List.map_append, textG_app]
  simp [textG]
theorem pric_split (es : List En) (rs : List Rb) : pricL es rs = textG (es.map pLine) ++ textG (rs.map rLine) := by
  unfold pricL pLines
  rw [textG_app]
/-- A text's first lines are not longer than the text. -/
theorem take_text_le (p : List Ln) (k : Nat) : (textG (p.take k)).length ≤ (textG p).length := by
  have e : (textG p).length = (textG (p.take k)).length + (textG (p.drop k)).length := by rw [← textG_len_app', List.take_append_drop]
  omega

theorem textG_ge_mem : ∀ {p : List Ln} {x : Ln}, x ∈ p → (lineOf x).length ≤ (textG p).length
  | y :: p, x, h => by
    rw [textG_cons, List.length_append]
    rcases List.mem_cons.1 h with rfl | h
    · omega
    · have := textG_ge_mem h
      omega
/-! ### Texts that are equal or not, as a walk asks it -/
theorem tx_beqT {a b : ByteArray} (h : a = b) : (a == b) = true := by
  subst h
  cases a with
  | mk d => show (d == d) = true; simp
theorem tx_beqF {a b : ByteArray} (h : ¬ a = b) : (a == b) = false := by
  cases a with
  | mk d =>
    cases b with
    | mk f =>
      show (d == f) = false
      rw [beq_eq_false_iff_ne]
      intro e
      exact h (by rw [e])
theorem tx_listF {a b : ByteArray} (h : ¬ a = b) : (a.toList == b.toList) = false := by
  rw [Lib.toList_data, Lib.toList_data, beq_eq_false_iff_ne]
  exact fun e => h (ba_ext e)
theorem tx_listT {a b : ByteArray} (h : a = b) : (a.toList == b.toList) = true := by
  rw [h]
  exact beq_self_eq_true _
theorem tx_litT {a : ByteArray} {l : List UInt8} (h : a.data.toList = l) : (a.toList == l) = true := by
  rw [Lib.toList_data]
  exact beq_iff_eq.2 h
theorem tx_litF {a : ByteArray} {l : List UInt8} (h : ¬ a.data.toList = l) : (a.toList == l) = false := by
  rw [Lib.toList_data]
  exact beq_eq_false_iff_ne.2 h
theorem tx_someT {a : ByteArray} (h : a = ⟨#[]⟩) : a.toList.isEmpty = true := by
  rw [h, Lib.toList_data]
  rfl
theorem tx_someF {a : ByteArray} (h : ¬ a = ⟨#[]⟩) : a.toList.isEmpty = false := by
  rw [Lib.toList_data]
  cases hl : a.data.toList with
  | nil => exact absurd (ba_ext hl) h
  | cons c l => rfl
end Go.Proofs.YtpdlbmieciabmaaGreatDoor
