/- What is proved here: several parts. plain facts for the laws on the order of votes, on overlaps, liars and honest officers. No conditions. · plain facts for the client laws: the officers of their setups, votes of all of them, heads that blame nobody, two heads that are both certified. No conditions. · what the client laws share: their events are well, short and verified; slices of leaves; bytes of slices. Conditions: the world's numbers are bytes. · plain facts for the law on receipts: events are verified, what is said ahead of the votes and behind them. No conditions. · two roots differ, by the kernel; the votes that the check's client takes, and whom it blames; error numbers of the laws. No conditions. · the check of the client laws answers true. Condition: the table of powers of ten reads as its initialiser lays it. -/
import Derived.Test.YtgalfohobgjelaaGreatDoorRc17
import Derived.Test.YtgalfohobgjelaaGreatDoorRc29
import Derived.Test.YtgalfohobgjelaaGreatDoorRc31
namespace Go.Proofs.YtgalfohobgjelaaGreatDoor
theorem offGo_all : ∀ (l : List Pers) (seen : List Int), (∀ p ∈ l, p.role = 2 ∧ p.id ∉ seen) → l.Pairwise (fun p q => p.id ≠ q.id) → offGo seen l = l
  | [], _, _, _ => rfl
  | p :: l, seen, h, hp => by
    obtain ⟨h1, h2⟩ := List.pairwise_cons.1 hp
    have h0 := h p (by simp)
    unfold offGo
    rw [if_pos ⟨h0.2, h0.1⟩, offGo_all l _ (fun q hq => ⟨(h q (by simp [hq])).1, by
      rw [List.mem_cons, not_or]
      exact ⟨fun e => h1 q hq e.symm, (h q (by simp [hq])).2⟩⟩) h2]
/-- The officers of a setup without odd persons. -/
theorem offs_setB (m : Nat) (hm : m < 50) : offs (setB m) = (List.range m).map (fun j => offAt (j + 1)) := by
  unfold offs setB
  rw [offGo, if_neg (fun h => by have h2 : (1 : Int) = 2 := h.2; omega)]
  refine offGo_all _ _ (fun p hp => ?_) ?_
  · obtain ⟨j, hj, rfl⟩ := List.mem_map.1 hp
    have := List.mem_range.1 hj
    refine ⟨rfl, ?_⟩
    rw [List.mem_cons, not_or]
    exact ⟨fun e => by have h2 : ((j + 1 : Nat) : Int) = 50 := e; omega, List.not_mem_nil⟩
  · rw [List.pairwise_map]
    exact List.pairwise_lt_range.imp (fun {a b} h e => by have h2 : ((a + 1 : Nat) : Int) = ((b + 1 : Nat) : Int) := e; omega)
end Go.Proofs.YtgalfohobgjelaaGreatDoor
namespace Go.Proofs.YtgalfohobgjelaaGreatDoor
theorem offGo_skip : ∀ (l m : List Pers) (seen : List Int), (∀ p ∈ m, p.role ≠ 2) → offGo seen (l ++ m) = offGo seen l
  | [], [], _, _ => rfl
  | [], p :: m, seen, h => by
    rw [List.nil_append]
    unfold offGo
    rw [if_neg (fun h2 => h p (List.mem_cons_self ..) h2.2)]
    have := offGo_skip [] m (p.id :: seen) (fun q hq => h q (List.mem_cons_of_mem _ hq))
    rw [List.nil_append] at this
    rw [this]
    rfl
  | p :: l, m, seen, h => by
    rw [List.cons_append]
    unfold offGo
    rw [offGo_skip l m _ h]
theorem offs_setW (d : Wd) : offs (setW d) = (List.range d.n).map (fun j => offAt (j + 1)) := by
  rw [← offs_setB d.n (by have := wdn_le d; omega)]
  unfold offs setW
  exact offGo_skip _ _ _ (fun p hp => by
    simp only [List.mem_cons, List.not_mem_nil, or_false] at hp
    rcases hp with rfl | rfl <;> (intro e; cases e))
theorem offs_setW_len (d : Wd) : (offs (setW d)).length = d.n := by rw [offs_setW]; simp
theorem offsW_at {d : Wd} {p : Pers} (hp : p ∈ offs (setW d)) : ∃ k, 1 ≤ k ∧ k ≤ d.n ∧ p = offAt k := by
  rw [offs_setW] at hp
  obtain ⟨j, hj, rfl⟩ := List.mem_map.1 hp
  have := List.mem_range.1 hj
  exact ⟨j + 1, by omega, by omega, rfl⟩
/-- Who votes. -/
theorem votesN_mem (yes : Nat) (h : Hd) : ∀ (n : Nat) (v : Vt), v ∈ votesN yes 0 h n ↔ ∃ k, 1 ≤ k ∧ k ≤ n ∧ bitW yes k = true ∧ v = vAt h k
  | 0, v => by
    constructor
    · intro hv; simp [votesN] at hv
    · rintro ⟨k, h1, h2, _⟩; omega
  | n + 1, v => by
    simp only [votesN, List.mem_append]
    rw [votesN_mem yes h n v]
    constructor
    · rintro (⟨k, h1, h2, h3, h4⟩ | hv)
      · exact ⟨k, h1, by omega, h3, h4⟩
      · split at hv
        · rename_i hb
          simp only [List.mem_singleton] at hv
          exact ⟨n + 1, by omega, Nat.le_refl _, hb, by rw [hv, voteW0 _ _ (bit00 _)]⟩
        · simp at hv
    · rintro ⟨k, h1, h2, h3, h4⟩
      by_cases e : k = n + 1
      · subst e
        refine .inr ?_
        rw [if_pos h3, h4, voteW0 _ _ (bit00 _)]
        exact List.mem_singleton.2 rfl
      · exact .inl ⟨k, h1, by omega, h3, h4⟩
theorem votesW_mem {d : Wd} {h : Hd} {yes : Nat} {v : Vt} : v ∈ votesW d h yes 0 ↔ ∃ k, 1 ≤ k ∧ k ≤ d.n ∧ bitW yes k = true ∧ v = vAt h k := votesN_mem _ _ _ _
theorem bit4095 (k : Nat) (hk : k ≤ 7) : bitW 4095 k = true := by
  match k, hk with
  | 0, _ | 1, _ | 2, _ | 3, _ | 4, _ | 5, _ | 6, _ | 7, _ => decide
/-- All officers certify. -/
theorem cert_allW (d : Wd) (h : Hd) : certB (setW d) h (votesW d h 4095 0) = true := by
  unfold certB
  rw [votesFor_eq]
  have hc : (offs (setW d)).countP (fun p => hasV (votesW d h 4095 0) p h) = (offs (setW d)).length := by
    rw [List.countP_eq_length]
    intro p hp
    obtain ⟨k, h1, h2, rfl⟩ := offsW_at hp
    have h7 := wdn_le d
    exact hasV_iff.2 ⟨vAt h k, votesW_mem.2 ⟨k, h1, h2, bit4095 k (by omega), rfl⟩, rfl, by rw [cnts_at, decide_eq_true rfl]⟩
  rw [hc]
  refine decide_eq_true ?_
  have := offs_setW_len d
  have := wdn_pos d
  unfold need
  omega
theorem best_allW (d : Wd) (h : Hd) {o : Option Hd} (ho : BestL (setW d) (votesW d h 4095 0) o) : o = some h := by
  rcases best_same (fun v hv => votesW_head hv) ho with ⟨_, h2⟩ | ⟨h1, _⟩
  · rcases h2 with h2 | h2
    · have h7 := wdn_pos d
      have : vAt h 1 ∈ votesW d h 4095 0 := votesW_mem.2 ⟨1, by omega, h7, by decide, rfl⟩
      rw [h2] at this
      cases this
    · rw [cert_allW] at h2; cases h2
  · exact h1
theorem agT_sizes {a b : Hd} (h : a.size ≠ b.size) : agT a b = true := by
  unfold agT
  rw [agB_cases]
  simp [h]
theorem agT_roots {a b : Hd} (h : a.size = b.size) (hn : a ≠ b) : agT a b = false := by
  unfold agT
  rw [agB_cases]
  have : eqHd a b = false := by
    cases he : eqHd a b with
    | false => rfl
    | true => exact absurd (eqHd_true.1 he) hn
  simp [h, this]
theorem agT_self (a : Hd) : agT a a = true := by
  unfold agT
  rw [agB_cases]
  simp [eqHd_true.2 rfl]
theorem agT_true {a b : Hd} (h : a.size = b.size → a = b) : agT a b = true := by
  by_cases e : a.size = b.size
  · rw [h e]; exact agT_self b
  · exact agT_sizes e
theorem blL_nil {P : List Pers} {L : List Vt} (h : ∀ u ∈ L, ∀ v ∈ L, u.head.size = v.head.size → u.head = v.head) : blL P L = [] := by
  unfold blL clashL clashO
  rw [List.filterMap_eq_nil_iff]
  intro p _
  unfold blmOf
  rw [firstP_none (fun u hu v hv => agT_true (h u (List.mem_filter.1 hu).1 v (List.mem_filter.1 hv).1))]
  rfl
theorem takeV_mem (M L : List Vt) (v : Vt) : v ∈ takeV M L ↔ v ∈ M ∨ v ∈ L := by
  rw [takeV_fold]
  induction L generalizing M with
  | nil => simp
  | cons x l ih =>
    rw [List.foldl_cons, ih]
    unfold take1
    by_cases hb : hasB M x = true
    · rw [if_pos hb]
      have := hasB_true.1 hb
      constructor
      · rintro (h | h)
        · exact .inl h
        · exact .inr (List.mem_cons_of_mem _ h)
      · rintro (h | h)
        · exact .inl h
        · rcases List.mem_cons.1 h with rfl | h
          · exact .inl this
          · exact .inr h
    · rw [if_neg hb]
      simp only [List.mem_append, List.mem_cons, List.not_mem_nil, or_false]
      constructor
      · rintro ((h | h) | h)
        · exact .inl h
        · exact .inr (.inl h)
        · exact .inr (.inr h)
      · rintro (h | h | h)
        · exact .inl (.inl h)
        · exact .inl (.inr h)
        · exact .inr h
end Go.Proofs.YtgalfohobgjelaaGreatDoor
namespace Go.Proofs.YtgalfohobgjelaaGreatDoor
open Go.RowKit Go.Shelf
theorem evAt_ok (d : Wd) (second : Bool) (k : Nat) (hk : k ≤ 2000) (last : Hs) (hl : last.length = 32) (x : Nat) : (evAt d second k last x).Ok := signE_ok (evRaw_ok d second k hk last hl x) _
theorem evAt_short (d : Wd) (second : Bool) (k : Nat) (last : Hs) (x : Nat) : (evAt d second k last x).name.size ≤ 100 ∧ (evAt d second k last x).text.size ≤ 100 := signE_short _ _ (evRaw_short d second k last x)
/-- Each event of a list is one that was made of a number. -/
theorem evsGo_get (d : Wd) (second : Bool) : ∀ (l : List UInt8) (k : Nat) (last : Hs), last.length = 32 → ∀ (i : Nat) (e : Ev), (evsGo d second k last l)[i]? = some e → ∃ (prev : Hs) (x : UInt8), prev.length = 32 ∧ l[i]? = some x ∧ e = evAt d second (k + i) prev x.toNat
  | [], _, _, _, i, e, h => by simp [evsGo] at h
  | x :: l, k, last, hl, 0, e, h => by
    simp only [evsGo, List.getElem?_cons_zero, Option.some.injEq] at h
    exact ⟨last, x, hl, rfl, h.symm⟩
  | x :: l, k, last, hl, i + 1, e, h => by
    simp only [evsGo, List.getElem?_cons_succ] at h
    obtain ⟨prev, y, h1, h2, h3⟩ := evsGo_get d second l (k + 1) _ (shaL_len _) i e h
    exact ⟨prev, y, h1, by rw [List.getElem?_cons_succ]; exact h2, by rw [h3, show k + (i + 1) = k + 1 + i by omega]⟩
theorem evsW_len (d : Wd) (second : Bool) : (evsW d second).length = min 12 d.kinds.length := by
  unfold evsW
  rw [evsGo_len, List.length_take]
theorem evsW_le (d : Wd) (second : Bool) : (evsW d second).length ≤ 12 := by rw [evsW_len]; omega
theorem evsW_get {d : Wd} {second : Bool} {i : Nat} {e : Ev} (h : (evsW d second)[i]? = some e) : ∃ (prev : Hs) (x : UInt8), prev.length = 32 ∧ d.kinds[i]? = some x ∧ i < 12 ∧ e = evAt d second i prev x.toNat := by
  unfold evsW at h
  obtain ⟨prev, x, h1, h2, h3⟩ := evsGo_get d second _ 0 zeroH rfl i e h
  have hi : i < 12 := by
    have := (List.getElem?_eq_some_iff.1 h2).1
    rw [List.length_take] at this
    omega
  refine ⟨prev, x, h1, ?_, hi, by rw [h3, Nat.zero_add]⟩
  rw [List.getElem?_take, if_pos hi] at h2
  exact h2
theorem evsW_ok {d : Wd} {second : Bool} {e : Ev} (h : e ∈ evsW d second) : e.Ok ∧ e.name.size ≤ 100 ∧ e.text.size ≤ 100 := by
  obtain ⟨i, hi⟩ := List.mem_iff_getElem?.1 h
  obtain ⟨prev, x, h1, _, h12, rfl⟩ := evsW_get hi
  exact ⟨evAt_ok d second i (by omega) prev h1 _, evAt_short d second i prev _⟩
/-- The leaves of the first list, or of the second one. -/
noncomputable def lvW (d : Wd) (second : Bool) : List ByteArray := leavesE (evsW d second)
theorem lvW_len (d : Wd) (second : Bool) : (lvW d second).length = (evsW d second).length := leavesE_len _
theorem lvW_le (d : Wd) (second : Bool) : (lvW d second).length ≤ 12 := by rw [lvW_len]; exact evsW_le d second
theorem lvW_short (d : Wd) (second : Bool) : ShortTs (lvW d second) := fun s hs => by
  obtain ⟨e, he, rfl⟩ := List.mem_map.1 hs
  have h := evsW_ok he
  have h2 := evCode_short h.1 (by omega) (by omega)
  show (evCode e).toArray.size ≤ _
  rw [List.size_toArray]
  exact h2
theorem short_take {L : List ByteArray} (h : ShortTs L) (n : Nat) : ShortTs (L.take n) := fun s hs => h s (List.mem_of_mem_take hs)
/-- The first texts of a slice. -/
theorem StSl.first {W : World} {A : Option Addr} {n cap k : Nat} {L : List ByteArray} (h : StSl W (.slice A n cap) L) (hk : k ≤ L.length) : StSl W (.slice A k cap) (L.take k) := by
  obtain ⟨A', cap', e, h1, h2, h3⟩ := h
  cases e
  refine ⟨A, cap, by rw [List.length_take, Nat.min_eq_left hk], by rw [List.length_take]; omega, h2, fun i s hs => h3 i s ?_⟩
  rw [List.getElem?_take] at hs
  split at hs
  · exact hs
  · cases hs
end Go.Proofs.YtgalfohobgjelaaGreatDoor
namespace Go.Proofs.YtgalfohobgjelaaGreatDoor
theorem verL_skip {e : Ev} : ∀ (l m : List Pers), (∀ p ∈ l, p.id ≠ e.who) → verL (l ++ m) e = verL m e
  | [], _, _ => rfl
  | p :: l, m, h => by
    rw [List.cons_append]
    show (if p.id = e.who then _ else verL (l ++ m) e) = _
    rw [if_neg (h p (List.mem_cons_self ..))]
    exact verL_skip l m (fun q hq => h q (List.mem_cons_of_mem _ hq))
theorem verL_hit {e : Ev} {p : Pers} (l : List Pers) (h : p.id = e.who) (hg : goodB p.pub (evText e) e.r e.s = true) : verL (p :: l) e = 0 := by
  show (if p.id = e.who then _ else _) = _
  rw [if_pos h, if_pos hg]
theorem sign_good (x : Int) (e : Ev) : goodB (pub x : Int) (evText (signE x e)) (signE x e).r (signE x e).s = true := goodB_true.2 (good_signed x (evText e) (nonce (expo x) (evText e)))
theorem setB_low {d : Wd} {p : Pers} (hp : p ∈ setB d.n) : p.id = 50 ∨ (1 ≤ p.id ∧ p.id ≤ 7) := by
  unfold setB at hp
  rcases List.mem_cons.1 hp with rfl | hp
  · exact .inl rfl
  · obtain ⟨j, hj, rfl⟩ := List.mem_map.1 hp
    have h1 := List.mem_range.1 hj
    have h2 := wdn_le d
    have e : (offAt (j + 1)).id = ((j + 1 : Nat) : Int) := rfl
    rw [e]
    exact .inr ⟨by omega, by omega⟩
theorem evAt_who (d : Wd) (second : Bool) (k : Nat) (prev : Hs) (x : Nat) : (evAt d second k prev x).who = if x % 4 = 0 then 50 else 60 + ((x % 4 / 3 : Nat) : Int) := rfl
theorem evAt_kind (d : Wd) (second : Bool) (k : Nat) (prev : Hs) (x : Nat) : (evAt d second k prev x).kind = if x % 4 = 0 then 3 else 4 := rfl
theorem evAt_text (d : Wd) (second : Bool) (k : Nat) (prev : Hs) (x : Nat) : (evAt d second k prev x).text = if x % 4 = 0 then textAns else bidT ((x / 4 : Nat) : Int) := rfl
theorem ver_ev (d : Wd) (second : Bool) (k : Nat) (prev : Hs) (x : Nat) : verL (setW d) (evAt d second k prev x) = 0 := by
  have hg := sign_good (secI (evRaw d second k prev x).who) (evRaw d second k prev x)
  have ee : signE (secI (evRaw d second k prev x).who) (evRaw d second k prev x) = evAt d second k prev x := rfl
  rw [ee] at hg
  have ew : (evRaw d second k prev x).who = (evAt d second k prev x).who := rfl
  rw [ew] at hg
  obtain ⟨e, he⟩ : ∃ e, e = evAt d second k prev x := ⟨_, rfl⟩
  have hw := evAt_who d second k prev x
  rw [← he] at hg hw ⊢
  unfold setW
  by_cases h0 : x % 4 = 0
  · rw [if_pos h0] at hw
    unfold setB
    rw [List.cons_append]
    exact verL_hit _ (by rw [hw]; rfl) (by rw [hw] at hg; exact hg)
  · rw [if_neg h0] at hw
    have h3 : x % 4 / 3 = 0 ∨ x % 4 / 3 = 1 := by omega
    rw [verL_skip _ _ (fun p hp => by
      have := setB_low hp
      rw [hw]
      omega)]
    rcases h3 with h3 | h3
    · rw [h3] at hw
      have hw' : e.who = 60 := hw
      exact verL_hit _ (by rw [hw']; rfl) (by rw [hw'] at hg; exact hg)
    · rw [h3] at hw
      have hw' : e.who = 61 := hw
      have s1 := verL_skip (e := e) [bidder 60] [bidder 61] (fun p hp => by
        rw [List.mem_singleton.1 hp, hw']
        show (60 : Int) ≠ 61
        decide)
      rw [List.singleton_append] at s1
      rw [s1]
      exact verL_hit _ (by rw [hw']; rfl) (by rw [hw'] at hg; exact hg)
theorem bid_texts : ∀ r s : Fin 4, r ≠ s → (encB ⟨60, ⟨#[113, UInt8.ofNat (97 + r.val)]⟩, [4], ⟨#[]⟩, []⟩ == encB ⟨60, ⟨#[113, UInt8.ofNat (97 + s.val)]⟩, [4], ⟨#[]⟩, []⟩) = false := by decide +kernel
theorem bid_next (n : Int) : encT (bidW n) ≠ encT (bidW (n + 1)) := fun h => by
  have h1 : encB (bidW n) = encB (bidW (n + 1)) := by
    have := congrArg (fun t : ByteArray => t.data.toList) h
    simpa [encT] using this
  have hr : (n % 4).toNat < 4 := by omega
  have hs : ((n + 1) % 4).toNat < 4 := by omega
  have h2 := bid_texts ⟨(n % 4).toNat, hr⟩ ⟨((n + 1) % 4).toNat, hs⟩ (fun e => by
    have := congrArg Fin.val e
    simp only at this
    omega)
  rw [beq_eq_false_iff_ne] at h2
  exact h2 h1
/-- Whether the event is of the bidder's bids. -/
def ownEv (x : Nat) : Bool := decide (x % 4 = 1 ∨ x % 4 = 2)
theorem rc_unsent (P : List Pers) (id : Int) (text : ByteArray) (e : Ev) : rcPre P id false text e = 34 := by
  unfold rcPre
  rw [if_pos rfl]
theorem rc_other (d : Wd) (second : Bool) (k : Nat) (prev : Hs) (x : Nat) (text : ByteArray) (h : ownEv x = false) : rcPre (setW d) 60 true text (evAt d second k prev x) = 35 := by
  have h' : ¬ (x % 4 = 1 ∨ x % 4 = 2) := of_decide_eq_false h
  unfold rcPre
  rw [if_neg (by decide), ver_ev, if_neg (by decide), evAt_who, evAt_kind]
  by_cases h0 : x % 4 = 0
  · rw [if_pos h0, if_pos (by decide)]
  · rw [if_neg h0, if_neg h0, if_pos (by omega)]
theorem rc_own (d : Wd) (second : Bool) (k : Nat) (prev : Hs) (x : Nat) (text : ByteArray) (h : ownEv x = true) : rcPre (setW d) 60 true text (evAt d second k prev x) = if text = encT (bidW ((x / 4 : Nat) : Int)) then 0 else 20 := by
  have h' : x % 4 = 1 ∨ x % 4 = 2 := of_decide_eq_true h
  unfold rcPre
  have h0 : ¬ x % 4 = 0 := by omega
  have h3 : x % 4 / 3 = 0 := by omega
  rw [if_neg (by decide), ver_ev, if_neg (by decide), evAt_who, evAt_kind, evAt_text, if_neg h0, if_neg h0, if_neg h0, h3, if_neg (by decide), if_neg (by decide)]
  have e : bidT ((x / 4 : Nat) : Int) = encT (bidW ((x / 4 : Nat) : Int)) := rfl
  rw [e]
  by_cases ht : text = encT (bidW ((x / 4 : Nat) : Int))
  · rw [if_pos ht, if_neg (by rw [ht]; exact fun h => h rfl)]
  · rw [if_neg ht, if_pos (Ne.symm ht)]
/-- A right path in a certified head. -/
theorem rc_path {d : Wd} {second : Bool} {k many : Nat} {e : Ev} (he : (evsW d second)[k]? = some e) (hs : e.seq = (k : Int)) (hk : k < many) (hm : many ≤ (lvW d second).length) : rcPost (some (hdOf ((lvW d second).take many))) e (pathF ((lvW d second).take many).length (txs ((lvW d second).take many)) k).reverse = 0 := by
  have hl := lvW_le d second
  have h := ckP_right (txs ((lvW d second).take many)) k (evCode e) (by rw [txs_len, List.length_take]; omega) (by
    rw [txs_take, List.getElem?_take, if_pos hk]
    unfold txs lvW leavesE
    rw [List.getElem?_map, List.getElem?_map, he]
    rfl)
  rw [txs_len, List.length_take, Nat.min_eq_left hm] at h
  rw [List.length_take, Nat.min_eq_left hm]
  unfold rcPost
  simp only
  have e1 : (hdOf ((lvW d second).take many)).size.toNat = many := by
    show ((((lvW d second).take many).length : Nat) : Int).toNat = _
    rw [Int.toNat_natCast, List.length_take, Nat.min_eq_left hm]
  rw [e1, hs, if_pos]
  exact h
end Go.Proofs.YtgalfohobgjelaaGreatDoor
namespace Go.Proofs.YtgalfohobgjelaaGreatDoor
open Go.RowKit Go.Shelf
set_option maxRecDepth 100000 in
theorem roots_differ : (rootL [[97], [98], [99]] == rootL [[97], [98], [120]]) = false := by decide +kernel
theorem vAt_inj {a b : Hd} {i j : Nat} (h : vAt a i = vAt b j) : i = j ∧ a = b := by
  have h1 : (vAt a i).who = (vAt b j).who := by rw [h]
  have h2 : (vAt a i).head = (vAt b j).head := by rw [h]
  have h3 : (i : Int) = (j : Int) := h1
  exact ⟨by omega, h2⟩
theorem eqVt_id (v : Vt) : eqVt v v = true := eqVt_true.2 rfl
theorem eqVt_ix (a b : Hd) {i j : Nat} (h : i ≠ j) : eqVt (vAt a i) (vAt b j) = false := eqVt_false.2 (fun e => h (vAt_inj e).1)
theorem eqVt_hd {a b : Hd} (h : a ≠ b) (i j : Nat) : eqVt (vAt a i) (vAt b j) = false := eqVt_false.2 (fun e => h (vAt_inj e).2)
section
variable {a b x : Hd} (hab : a ≠ b) (hax : a ≠ x) (hbx : b ≠ x)
theorem take_one (a : Hd) : takeV [] [vAt a 1, vAt a 2, vAt a 3] = [vAt a 1, vAt a 2, vAt a 3] := by
  rw [takeV_fold]
  simp [take1, hasB, eqVt_ix a a (show (2 : Nat) ≠ 1 by decide), eqVt_ix a a (show (3 : Nat) ≠ 1 by decide), eqVt_ix a a (show (3 : Nat) ≠ 2 by decide)]
include hab in
theorem take_two : takeV [vAt a 1, vAt a 2, vAt a 3] [vAt b 1, vAt b 2, vAt b 3] = [vAt a 1, vAt a 2, vAt a 3, vAt b 1, vAt b 2, vAt b 3] := by
  rw [takeV_fold]
  simp [take1, hasB, eqVt_hd (Ne.symm hab), eqVt_ix b b (show (2 : Nat) ≠ 1 by decide), eqVt_ix b b (show (3 : Nat) ≠ 1 by decide), eqVt_ix b b (show (3 : Nat) ≠ 2 by decide)]
theorem take_again : takeV [vAt a 1, vAt a 2, vAt a 3, vAt b 1, vAt b 2, vAt b 3] [vAt a 1, vAt a 2, vAt a 3] = [vAt a 1, vAt a 2, vAt a 3, vAt b 1, vAt b 2, vAt b 3] := by
  rw [takeV_fold]
  simp [take1, hasB, eqVt_id]
include hax hbx in
theorem take_three : takeV [vAt a 1, vAt a 2, vAt a 3, vAt b 1, vAt b 2, vAt b 3] [vAt x 2, vAt x 3, vAt x 4] = [vAt a 1, vAt a 2, vAt a 3, vAt b 1, vAt b 2, vAt b 3, vAt x 2, vAt x 3, vAt x 4] := by
  rw [takeV_fold]
  simp [take1, hasB, eqVt_hd (Ne.symm hax), eqVt_hd (Ne.symm hbx), eqVt_ix x x (show (3 : Nat) ≠ 2 by decide), eqVt_ix x x (show (4 : Nat) ≠ 2 by decide), eqVt_ix x x (show (4 : Nat) ≠ 3 by decide)]
end
theorem offAt_id (k : Nat) : (offAt k).id = (k : Int) := rfl
theorem vAt_head (h : Hd) (k : Nat) : (vAt h k).head = h := rfl
section
variable {a b x : Hd} (hab : a.size ≠ b.size) (hax : a.size ≠ x.size) (hbx : b.size = x.size) (hne : b ≠ x)
include hab in
theorem blames_none : blL (setW wd3) [vAt a 1, vAt a 2, vAt a 3, vAt b 1, vAt b 2, vAt b 3] = [] := by
  unfold blL clashL
  rw [offs_setW3]
  simp [clashO, blmOf, cnts_at, firstP_cons, firstP_nil, vAt_head, agT_sizes hab]
include hab hax hbx hne in
theorem blames_two : blL (setW wd3) [vAt a 1, vAt a 2, vAt a 3, vAt b 1, vAt b 2, vAt b 3, vAt x 2, vAt x 3, vAt x 4] = [⟨2, vAt b 2, vAt x 2⟩, ⟨3, vAt b 3, vAt x 3⟩] := by
  unfold blL clashL
  rw [offs_setW3]
  simp [clashO, blmOf, cnts_at, firstP_cons, firstP_nil, vAt_head, agT_sizes hab, agT_sizes hax, agT_roots hbx hne, offAt_id]
end
set_option maxHeartbeats 1000000 in
theorem few_any (v : Int) (w : World) : Calls Tryz.prog 33 #[.int .i64 v] w fun e w' => e = .returned (.int .i64 (if v = 0 then 24 else v)) ∧ w' = w := by
  by_cases hv : v = 0
  · subst hv
    rw [if_pos rfl]
    go_enter Tryz.func33, Tryz.ntmps33
    go_wp2_with fail
    go_ret
    exact ⟨rfl, rfl⟩
  · rw [if_neg hv]
    have b0 : (v == 0) = false := by simpa using hv
    clear hv
    go_enter Tryz.func33, Tryz.ntmps33
    go_wp2_with fail
    go_ret
    exact ⟨rfl, rfl⟩
end Go.Proofs.YtgalfohobgjelaaGreatDoor
namespace Go.Proofs.YtgalfohobgjelaaGreatDoor
open Go.RowKit Go.Shelf
attribute [local go_sem ↓ high] wdLoad_eq hdLoad_eq hdNew_eq hdStore_eq
def sAb : List ByteArray := [⟨#[97]⟩, ⟨#[98]⟩]
def sAbc : List ByteArray := [⟨#[97]⟩, ⟨#[98]⟩, ⟨#[99]⟩]
def sAbx : List ByteArray := [⟨#[97]⟩, ⟨#[98]⟩, ⟨#[120]⟩]
theorem sAbc_short : ShortTs sAbc := fun x hx => by
  simp only [sAbc, List.mem_cons, List.not_mem_nil, or_false] at hx
  rcases hx with rfl | rfl | rfl <;> decide
theorem sAbx_short : ShortTs sAbx := fun x hx => by
  simp only [sAbx, List.mem_cons, List.not_mem_nil, or_false] at hx
  rcases hx with rfl | rfl | rfl <;> decide
theorem sAb_short : ShortTs sAb := fun x hx => by
  simp only [sAb, List.mem_cons, List.not_mem_nil, or_false] at hx
  rcases hx with rfl | rfl <;> decide
/-- A slice of a block of texts. -/
theorem blk_st {W : World} {G : Nat} {cs : Array Value} (L : List ByteArray) (h : Blk W G 9 cs) (cap : Nat) (hc : L.length ≤ cap) (hm : cap ≤ 1000) (e : ∀ (i : Nat) (p : ByteArray), L[i]? = some p → cs[i]? = some (Value.string p)) : StSl W (.slice (some ⟨G, 0, none⟩) L.length cap) L :=
  ⟨_, cap, rfl, hc, by omega, fun i p hp => ⟨G, 0, rfl, by
    rw [Nat.zero_add, h.cell]; exact e i p hp⟩⟩
/-- What lies there ahead of the heads. -/
structure SnP (w : World) (base C top B G : Nat) (s : Vw) (W : World) : Prop where
  has : Has w base C top s W
  wd : Blk W B tWd (wdC wd3 none 0)
  l : Blk W G 9 #[.string ⟨#[97]⟩, .string ⟨#[98]⟩, .string ⟨#[99]⟩]
theorem SnP.keep {w : World} {base C top B G : Nat} {s : Vw} {W W' : World} (h : SnP w base C top B G s W) (ho : Only NoneOf W W') : SnP w base C top B G s W' :=
  ⟨h.has.keep ho, h.wd.only ho (fun e => e), h.l.only ho (fun e => e)⟩
theorem SnP.two {w : World} {base C top B G : Nat} {s : Vw} {W : World} (h : SnP w base C top B G s W) : StSl W (.slice (some ⟨G, 0, none⟩) 2 3) sAb :=
  blk_st sAb h.l 3 (by decide) (by omega) (fun i p hp => by
    match i, hp with
    | 0, rfl | 1, rfl => rfl)
theorem SnP.three {w : World} {base C top B G : Nat} {s : Vw} {W : World} (h : SnP w base C top B G s W) : StSl W (.slice (some ⟨G, 0, none⟩) 3 3) sAbc :=
  blk_st sAbc h.l 3 (by decide) (by omega) (fun i p hp => by
    match i, hp with
    | 0, rfl | 1, rfl | 2, rfl => rfl)
theorem new_three (W : World) : StSl (W.alloc (.cells #[.string ⟨#[97]⟩, .string ⟨#[98]⟩, .string ⟨#[120]⟩] 9)) (.slice (some ⟨W.heap.size, 0, none⟩) 3 3) sAbx :=
  blk_st sAbx (Blk.new W _ _) 3 (by decide) (by omega) (fun i p hp => by
    match i, hp with
    | 0, rfl | 1, rfl | 2, rfl => rfl)
/-- What lies there. -/
structure SnS (w : World) (base C top B A1 A2 A3 : Nat) (a b x : Hd) (gv : Value) (Q : List Hs) (s : Vw) (W : World) : Prop where
  has : Has w base C top s W
  wd : Blk W B tWd (wdC wd3 none 0)
  g : HaOwn W w.heap.size gv Q.length Q
  a : HdAt W A1 a
  b : HdAt W A2 b
  x : HdAt W A3 x
section
variable {w : World} {base C top B A1 A2 A3 : Nat} {a b x : Hd} {gv : Value} {Q : List Hs} {s s' : Vw} {W W' : World}
theorem SnS.keep (h : SnS w base C top B A1 A2 A3 a b x gv Q s W) (ho : Only NoneOf W W') : SnS w base C top B A1 A2 A3 a b x gv Q s W' :=
  ⟨h.has.keep ho, h.wd.only ho (fun e => e), own_only h.g ho (fun _ _ e => e), Blk.only h.a ho (fun e => e), Blk.only h.b ho (fun e => e), Blk.only h.x ho (fun e => e)⟩
theorem SnS.near {top' : Nat} (h : SnS w base C top B A1 A2 A3 a b x gv Q s W) (hn : Near base W W') (hh : Has w base C top' s' W') : SnS w base C top' B A1 A2 A3 a b x gv Q s' W' :=
  ⟨hh, hn.blk h.wd (by decide) (by decide) (by decide), hn.own h.g (by decide) (by decide) (by decide), hn.blk h.a (by decide) (by decide) (by decide), hn.blk h.b (by decide) (by decide) (by decide), hn.blk h.x (by decide) (by decide) (by decide)⟩
end
theorem haSl_nil (W : World) : HaSl W (.slice none 0 0) [] := ⟨none, 0, rfl, Nat.le_refl _, by omega, fun i p hp => by simp at hp⟩
theorem vtOwn_nil (W : World) (b : Nat) : VtOwn W b (.slice none 0 0) 0 [] := ⟨rfl, .inl ⟨rfl, rfl⟩⟩
/-- A call of Head whose votes are all for one certified head. -/
theorem san_head (w : World) (ht : Tab w) {base C top B A1 A2 A3 : Nat} {a b x : Hd} {gv : Value} {Q : List Hs} {s : Vw} {W : World} (hZ : SnS w base C top B A1 A2 A3 a b x gv Q s W) (hP : s.P = setW wd3) (hsm : SmallH s.head) (hn : s.votes.length ≤ 1000) (L : List Vt) (hok : VtsOk L) (hsv : SmallV L) (hL : L.length ≤ 1000) (h : Option Hd) (hbest : ∀ o, BestL (setW wd3) L o → o = h) (sv : Value) (hs : VtOwn W top sv L.length L) (q : List Hs) (hqok : HsOk q) (hql : q.length ≤ 1000) (qv : Value) (hq : HaSl W qv q) (hqa : Off base W qv) (s' : Vw) (hs' : { s with votes := takeV s.votes L, head := hdNext h (knownH s.head) q s.head } = s') (n : Int) (hr : hdRes h (knownH s.head) q = n) :
    Calls Tryz.prog 19 #[.pointer (some ⟨C, 0, none⟩), sv, qv] W fun e w' => e = .returned (.int .i64 n) ∧ ∃ top', SnS w base C top' B A1 A2 A3 a b x gv Q s' w' := by
  refine (has_head w ht (by rw [hP]; exact setW_ok _) (by rw [hP]; exact setW_len _) hsm L hok hsv hL (by omega) sv q hqok (by omega) qv W hZ.has (hs.sl hok) (offV_top hs (Nat.le_refl _)) hq hqa).mono ?_
  rintro e w' ⟨o, ho, he, hh, hnr⟩
  rw [hP] at ho
  have := hbest o ho
  subst this
  rw [hs'] at hh
  rw [hr] at he
  exact ⟨he, _, hZ.near hnr hh⟩
def ab : Hd := hdOf sAb
def abc : Hd := hdOf sAbc
def abx : Hd := hdOf sAbx
theorem ab_ok : ab.Ok := hdOf_ok (by decide)
theorem abc_ok : abc.Ok := hdOf_ok (by decide)
theorem abx_ok : abx.Ok := hdOf_ok (by decide)
theorem known_ab : knownH ab = ab := by unfold knownH; rw [if_neg (by decide)]
theorem known_abc : knownH abc = abc := by unfold knownH; rw [if_neg (by decide)]
theorem known_hd0 : knownH hd0 = ⟨0, rootL []⟩ := by unfold knownH; rw [if_pos (show hd0.size = 0 from rfl)]
theorem ab_rt : ab.root = rootL (txs sAb) := rfl
theorem abc_rt : abc.root = rootL (txs sAbc) := rfl
theorem abx_rt : abx.root = rootL (txs sAbx) := rfl
theorem txs_abc : txs sAbc = [[97], [98], [99]] := rfl
theorem txs_abx : txs sAbx = [[97], [98], [120]] := rfl
theorem abc_root : abc.root = rootL [[97], [98], [99]] := by rw [abc_rt, txs_abc]
theorem abx_root : abx.root = rootL [[97], [98], [120]] := by rw [abx_rt, txs_abx]
theorem root_abx : abc.root ≠ abx.root := by
  rw [abc_root, abx_root]
  exact beq_eq_false_iff_ne.1 roots_differ
theorem ne_abx : abc ≠ abx := fun e => root_abx (by rw [e])
theorem size_ab : ab.size = 2 := rfl
theorem size_abc : abc.size = 3 := rfl
theorem size_abx : abx.size = 3 := rfl
theorem ne_ab_abc : ab ≠ abc := fun e => by have := congrArg Hd.size e; rw [size_ab, size_abc] at this; omega
theorem ne_ab_abx : ab ≠ abx := fun e => by have := congrArg Hd.size e; rw [size_ab, size_abx] at this; omega
theorem res1 : hdRes (some ab) (knownH hd0) [] = 0 := by
  rw [known_hd0]
  unfold hdRes
  simp only
  rw [size_ab, if_neg (by decide), if_neg (by decide), if_pos]
  exact ckL_zero _ _
theorem res2 : hdRes (some abc) (knownH ab) (growL (txs sAbc) 2) = 0 := by
  rw [known_ab]
  unfold hdRes
  simp only
  rw [size_ab, size_abc, if_neg (by decide), if_neg (by decide), if_pos]
  have h := ckL_grow (txs sAbc) 2 (by rw [txs_len]; show 3 ≤ 1000000; omega) (by rw [txs_len]; show 2 < 3; omega)
  have e1 : (txs sAbc).length = 3 := rfl
  have e2 : (txs sAbc).take 2 = txs sAb := rfl
  rw [e1, e2, ← ab_rt, ← abc_rt] at h
  exact h
theorem res3 : hdRes (some ab) (knownH abc) [] = 32 := by
  rw [known_abc]
  unfold hdRes
  simp only
  rw [size_ab, size_abc, if_pos (by decide)]
theorem res4 : hdRes (some abx) (knownH abc) [] = 44 := by
  rw [known_abc]
  unfold hdRes
  simp only
  rw [size_abx, size_abc, if_neg (by decide), if_pos rfl, if_neg (Ne.symm root_abx)]
noncomputable def sn0 : Vw := ⟨60, setW wd3, false, ⟨#[]⟩, hd0, [], false⟩
noncomputable def sn1 : Vw := { sn0 with votes := [vAt ab 1, vAt ab 2, vAt ab 3], head := ab }
noncomputable def sn2 : Vw := { sn0 with votes := [vAt ab 1, vAt ab 2, vAt ab 3, vAt abc 1, vAt abc 2, vAt abc 3], head := abc }
noncomputable def sn4 : Vw := { sn0 with votes := [vAt ab 1, vAt ab 2, vAt ab 3, vAt abc 1, vAt abc 2, vAt abc 3, vAt abx 2, vAt abx 3, vAt abx 4], head := abc }
theorem sn_0 : { sn0 with votes := takeV sn0.votes [], head := hdNext none (knownH sn0.head) [] sn0.head } = sn0 := by
  unfold hdNext hdRes
  simp only
  rw [if_neg (by decide)]
  rfl
theorem sn_1 : { sn0 with votes := takeV sn0.votes (votesW wd3 ab 14 0), head := hdNext (some ab) (knownH sn0.head) [] sn0.head } = sn1 := by
  have h1 : hdNext (some ab) (knownH sn0.head) [] sn0.head = ab := by
    unfold hdNext
    rw [show sn0.head = hd0 from rfl, if_pos res1]
    rfl
  rw [h1, votes14, show takeV sn0.votes _ = _ from take_one ab]
  rfl
theorem sn_2 : { sn1 with votes := takeV sn1.votes (votesW wd3 abc 14 0), head := hdNext (some abc) (knownH sn1.head) (growL (txs sAbc) 2) sn1.head } = sn2 := by
  have h1 : hdNext (some abc) (knownH sn1.head) (growL (txs sAbc) 2) sn1.head = abc := by
    unfold hdNext
    rw [show sn1.head = ab from rfl, if_pos res2]
    rfl
  rw [h1, votes14, show takeV sn1.votes _ = _ from take_two ne_ab_abc]
  rfl
theorem sn_3 : { sn2 with votes := takeV sn2.votes (votesW wd3 ab 14 0), head := hdNext (some ab) (knownH sn2.head) [] sn2.head } = sn2 := by
  have h1 : hdNext (some ab) (knownH sn2.head) [] sn2.head = abc := by
    unfold hdNext
    rw [show sn2.head = abc from rfl, res3, if_neg (by decide)]
  rw [h1, votes14, show takeV sn2.votes _ = _ from take_again]
  rfl
theorem sn_4 : { sn2 with votes := takeV sn2.votes (votesW wd3 abx 28 0), head := hdNext (some abx) (knownH sn2.head) [] sn2.head } = sn4 := by
  have h1 : hdNext (some abx) (knownH sn2.head) [] sn2.head = abc := by
    unfold hdNext
    rw [show sn2.head = abc from rfl, res4, if_neg (by decide)]
  rw [h1, votes28, show takeV sn2.votes _ = _ from take_three ne_ab_abx ne_abx]
  rfl
theorem bl_2 : blL sn2.P sn2.votes = [] := blames_none (a := ab) (b := abc) (by rw [size_ab, size_abc]; decide)
theorem bl_4 : blL sn4.P sn4.votes = [⟨2, vAt abc 2, vAt abx 2⟩, ⟨3, vAt abc 3, vAt abx 3⟩] := blames_two (a := ab) (b := abc) (x := abx) (by rw [size_ab, size_abc]; decide) (by rw [size_ab, size_abx]; decide) (by rw [size_abc, size_abx]) ne_abx
set_option maxRecDepth 100000 in
set_option maxHeartbeats 4000000 in
theorem sanity31 (w : World) (ht : Tab w) : Calls Tryz.prog 11 #[] w fun e w' => e = .returned (.bool true) ∧ Only NoneOf w w' := by
  obtain ⟨B, eB⟩ : ∃ B, B = w.heap.size := ⟨_, rfl⟩
  have hS0 : Blk (w.alloc (.cells #[.int .u8 3, .slice none 0 0, .int .u8 0] 24)) B tWd (wdC wd3 none 0) ∧ Only NoneOf w (w.alloc (.cells #[.int .u8 3, .slice none 0 0, .int .u8 0] 24)) := ⟨by rw [eB]; exact Blk.new w _ _, (Only.refl _ _).alloc _⟩
  obtain ⟨WV, eWV⟩ : ∃ v : Array Value, v = wdC wd3 none 0 := ⟨_, rfl⟩
  have hset : ∀ W, Calls Tryz.prog 18 #[.agg WV] W fun e' w' => ∃ pv, e' = .returned (setV pv) ∧ PerSl w' pv (setW wd3) ∧ Only NoneOf W w' := fun W => by rw [eWV]; exact wsetup_any wd3 wd3_ok none 0 W
  have hv14 : ∀ (h : Hd) W, h.Ok → Calls Tryz.prog 14 #[.agg WV, .agg (hdC h).toArray, .int .u16 14, .int .u16 0] W fun e' w' => ∃ rv, e' = .returned rv ∧ VtOwn w' W.heap.size rv (votesW wd3 h 14 0).length (votesW wd3 h 14 0) ∧ Only NoneOf W w' := fun h W ok => by rw [eWV]; exact wvotes_any wd3 wd3_ok h ok 14 0 (by omega) (by omega) none 0 W
  have hv28 : ∀ (h : Hd) W, h.Ok → Calls Tryz.prog 14 #[.agg WV, .agg (hdC h).toArray, .int .u16 28, .int .u16 0] W fun e' w' => ∃ rv, e' = .returned rv ∧ VtOwn w' W.heap.size rv (votesW wd3 h 28 0).length (votesW wd3 h 28 0) ∧ Only NoneOf W w' := fun h W ok => by rw [eWV]; exact wvotes_any wd3 wd3_ok h ok 28 0 (by omega) (by omega) none 0 W
  have hnew : ∀ W pv, Only NoneOf w W → PerSl W pv (setW wd3) → Calls Tryz.prog 17 #[.int .i64 60, setV pv] W fun e w' => ∃ C, e = .returned (.pointer (some ⟨C, 0, none⟩)) ∧ Has w W.heap.size C w'.heap.size sn0 w' ∧ Only NoneOf W w' := fun W pv ho hp => has_new w 60 (setW wd3) (setW_len _) pv W ho hp
  obtain ⟨a, ea⟩ : ∃ h, h = ab := ⟨_, rfl⟩
  obtain ⟨b, eb⟩ : ∃ h, h = abc := ⟨_, rfl⟩
  obtain ⟨x, ex⟩ : ∃ h, h = abx := ⟨_, rfl⟩
  obtain ⟨Q, eQ⟩ : ∃ q, q = growL (txs sAbc) 2 := ⟨_, rfl⟩
  have hha : ∀ W base C top G, SnP w base C top B G sn0 W → Calls Tryz.prog 15 #[.slice (some ⟨G, 0, none⟩) 2 3] W fun e w' => e = .returned (.agg (hdC a).toArray) ∧ Only NoneOf W w' := fun W _ _ _ _ h => by rw [ea]; exact rheadof_any sAb (by decide) sAb_short _ W h.two
  have hhb : ∀ W base C top G, SnP w base C top B G sn0 W → Calls Tryz.prog 15 #[.slice (some ⟨G, 0, none⟩) 3 3] W fun e w' => e = .returned (.agg (hdC b).toArray) ∧ Only NoneOf W w' := fun W _ _ _ _ h => by rw [eb]; exact rheadof_any sAbc (by decide) sAbc_short _ W h.three
  have hhx : ∀ W : World, Calls Tryz.prog 15 #[.slice (some ⟨W.heap.size, 0, none⟩) 3 3] (W.alloc (.cells #[.string ⟨#[97]⟩, .string ⟨#[98]⟩, .string ⟨#[120]⟩] 9)) fun e w' => e = .returned (.agg (hdC x).toArray) ∧ Only NoneOf (W.alloc (.cells #[.string ⟨#[97]⟩, .string ⟨#[98]⟩, .string ⟨#[120]⟩] 9)) w' := fun W => by rw [ex]; exact rheadof_any sAbx (by decide) sAbx_short _ _ (new_three W)
  have hgr : ∀ W base C top G, SnP w base C top B G sn0 W → Calls Tryz.prog 21 #[.slice (some ⟨G, 0, none⟩) 3 3, .int .i64 2] W fun e w' => ∃ gv, e = .returned (.tuple #[gv, .bool true]) ∧ HaOwn w' W.heap.size gv Q.length Q ∧ Only NoneOf W w' := fun W _ _ _ _ h => by rw [eQ]; exact rgrowth_any sAbc 2 (by decide) (by decide) sAbc_short _ W h.three
  have la : a.root.length = 32 := by rw [ea]; exact ab_ok.root
  have lb : b.root.length = 32 := by rw [eb]; exact abc_ok.root
  have lx : x.root.length = 32 := by rw [ex]; exact abx_ok.root
  have oa : a.Ok := by rw [ea]; exact ab_ok
  have ob : b.Ok := by rw [eb]; exact abc_ok
  have ox : x.Ok := by rw [ex]; exact abx_ok
  have qok : HsOk Q := by
    rw [eQ]
    unfold growL
    split
    · exact fun _ h => by cases h
    · exact fun h hh => growF_ok _ _ _ _ h (List.mem_reverse.1 hh)
  have qlen : Q.length ≤ 1000 := by
    rw [eQ]
    unfold growL
    split
    · exact Nat.zero_le _
    · rw [List.length_reverse]
      exact Nat.le_trans (growF_len _ _ _ _) (by decide)
  have k0 : ∀ W base C top A1 A2 A3 gv, SnS w base C top B A1 A2 A3 a b x gv Q sn0 W → Calls Tryz.prog 19 #[.pointer (some ⟨C, 0, none⟩), .slice none 0 0, .slice none 0 0] W fun e w' => e = .returned (.int .i64 24) ∧ ∃ top', SnS w base C top' B A1 A2 A3 a b x gv Q sn0 w' := fun W base C top A1 A2 A3 gv hZ =>
    san_head w ht hZ rfl hd0_small (by decide) [] (fun _ h => by cases h) (fun _ h => by cases h) (by decide) none (fun o ho => best_nil _ ho) _ (vtOwn_nil _ _) [] (fun _ h => by cases h) (by decide) _ (haSl_nil _) (off_nil _ _) _ sn_0 24 rfl
  have k1 : ∀ W base C top A1 A2 A3 gv sv, SnS w base C top B A1 A2 A3 a b x gv Q sn0 W → VtOwn W top sv (votesW wd3 a 14 0).length (votesW wd3 a 14 0) → Calls Tryz.prog 19 #[.pointer (some ⟨C, 0, none⟩), sv, .slice none 0 0] W fun e w' => e = .returned (.int .i64 0) ∧ ∃ top', SnS w base C top' B A1 A2 A3 a b x gv Q sn1 w' := fun W base C top A1 A2 A3 gv sv hZ hs => by
    subst ea
    exact san_head w ht hZ rfl hd0_small (by decide) _ (votesW_ok _ oa _ _) (votesW_small _ (hdOf_small (by decide)) _ _) (Nat.le_trans (votesW_len _ _ _ _) (by decide)) (some ab) (fun o ho => best14 _ ho) sv hs [] (fun _ h => by cases h) (by decide) _ (haSl_nil _) (off_nil _ _) _ sn_1 0 res1
  have k2 : ∀ W base C top A1 A2 A3 gv sv, SnS w base C top B A1 A2 A3 a b x gv Q sn1 W → VtOwn W top sv (votesW wd3 b 14 0).length (votesW wd3 b 14 0) → Calls Tryz.prog 19 #[.pointer (some ⟨C, 0, none⟩), sv, gv] W fun e w' => e = .returned (.int .i64 0) ∧ ∃ top', SnS w base C top' B A1 A2 A3 a b x gv Q sn2 w' := fun W base C top A1 A2 A3 gv sv hZ hs => by
    subst eb
    have h2 := res2
    have h3 := sn_2
    rw [← eQ] at h2 h3
    exact san_head w ht hZ rfl (hdOf_small (by decide)) (by show (3 : Nat) ≤ 1000; omega) _ (votesW_ok _ ob _ _) (votesW_small _ (hdOf_small (by decide)) _ _) (Nat.le_trans (votesW_len _ _ _ _) (by decide)) (some abc) (fun o ho => best14 _ ho) sv hs Q qok qlen _ (hZ.g.sl qok) (off_own hZ.g (by decide) (by decide) (by decide)) _ h3 0 h2
  have k3 : ∀ W base C top A1 A2 A3 gv sv, SnS w base C top B A1 A2 A3 a b x gv Q sn2 W → VtOwn W top sv (votesW wd3 a 14 0).length (votesW wd3 a 14 0) → Calls Tryz.prog 19 #[.pointer (some ⟨C, 0, none⟩), sv, .slice none 0 0] W fun e w' => e = .returned (.int .i64 32) ∧ ∃ top', SnS w base C top' B A1 A2 A3 a b x gv Q sn2 w' := fun W base C top A1 A2 A3 gv sv hZ hs => by
    subst ea
    exact san_head w ht hZ rfl (hdOf_small (by decide)) (by show (6 : Nat) ≤ 1000; omega) _ (votesW_ok _ oa _ _) (votesW_small _ (hdOf_small (by decide)) _ _) (Nat.le_trans (votesW_len _ _ _ _) (by decide)) (some ab) (fun o ho => best14 _ ho) sv hs [] (fun _ h => by cases h) (by decide) _ (haSl_nil _) (off_nil _ _) _ sn_3 32 res3
  have k4 : ∀ W base C top A1 A2 A3 gv sv, SnS w base C top B A1 A2 A3 a b x gv Q sn2 W → VtOwn W top sv (votesW wd3 x 28 0).length (votesW wd3 x 28 0) → Calls Tryz.prog 19 #[.pointer (some ⟨C, 0, none⟩), sv, .slice none 0 0] W fun e w' => e = .returned (.int .i64 44) ∧ ∃ top', SnS w base C top' B A1 A2 A3 a b x gv Q sn4 w' := fun W base C top A1 A2 A3 gv sv hZ hs => by
    subst ex
    exact san_head w ht hZ rfl (hdOf_small (by decide)) (by show (6 : Nat) ≤ 1000; omega) _ (votesW_ok _ ox _ _) (votesW_small _ (hdOf_small (by decide)) _ _) (Nat.le_trans (votesW_len _ _ _ _) (by decide)) (some abx) (fun o ho => best28 _ ho) sv hs [] (fun _ h => by cases h) (by decide) _ (haSl_nil _) (off_nil _ _) _ sn_4 44 res4
  have kb2 : ∀ W base C top A1 A2 A3 gv, SnS w base C top B A1 A2 A3 a b x gv Q sn2 W → Calls Tryz.prog 20 #[.pointer (some ⟨C, 0, none⟩)] W fun e w' => ∃ ov, e = .returned ov ∧ BlSl w' ov [] ∧ Only NoneOf W w' := fun W base C top A1 A2 A3 gv hZ => by
    rw [← bl_2]
    exact has_blames w ht (setW_ok _) (setW_len _) (by show (6 : Nat) ≤ 100000; omega) W hZ.has
  have kb4 : ∀ W base C top A1 A2 A3 gv, SnS w base C top B A1 A2 A3 a b x gv Q sn4 W → Calls Tryz.prog 20 #[.pointer (some ⟨C, 0, none⟩)] W fun e w' => ∃ ov, e = .returned ov ∧ BlSl w' ov [⟨2, vAt abc 2, vAt abx 2⟩, ⟨3, vAt abc 3, vAt abx 3⟩] ∧ Only NoneOf W w' := fun W base C top A1 A2 A3 gv hZ => by
    rw [← bl_4]
    exact has_blames w ht (setW_ok _) (setW_len _) (by show (9 : Nat) ≤ 100000; omega) W hZ.has
  have HS0 := Lib.hid hS0
  have EB := Lib.hid eB
  have EWV := Lib.hid eWV
  have HSET := Lib.hid hset
  have HV14 := Lib.hid hv14
  have HV28 := Lib.hid hv28
  have HNEW := Lib.hid hnew
  have HHA := Lib.hid hha
  have HHB := Lib.hid hhb
  have HHX := Lib.hid hhx
  have HGR := Lib.hid hgr
  have LA := Lib.hid la
  have LB := Lib.hid lb
  have LX := Lib.hid lx
  have OA := Lib.hid oa
  have OB := Lib.hid ob
  have OX := Lib.hid ox
  have K0 := Lib.hid k0
  have K1 := Lib.hid k1
  have K2 := Lib.hid k2
  have K3 := Lib.hid k3
  have K4 := Lib.hid k4
  have KB2 := Lib.hid kb2
  have KB4 := Lib.hid kb4
  clear hS0 eB eWV hset hv14 hv28 hnew hha hhb hhx hgr la lb lx oa ob ox k0 k1 k2 k3 k4 kb2 kb4 ea eb ex eQ qok qlen ht
  go_enter Tryz.func11, Tryz.ntmps11
  go_upto_region 2 with (fail)
  rw [← EB.out]
  refine wp_gen (fun Z => Blk Z B tWd (wdC wd3 none 0) ∧ Only NoneOf w Z) HS0.out ?_
  clear HS0
  rintro Z ⟨hB, hO⟩
  have l1 := wd_load hB
  rw [← EWV.out] at l1
  have HZ := Lib.hid (And.intro hB hO)
  clear hB hO
  go_wp2_with fail
  refine (HSET.out _).mono ?_
  rintro e1 w1 ⟨pv, rfl, hpv, ho1⟩
  have H1 := Lib.hid (And.intro hpv (And.intro (HZ.out.1.only ho1 (fun e => e)) (HZ.out.2.trans ho1)))
  clear hpv ho1 l1 HZ
  go_wp2_with fail
  refine (HNEW.out _ _ H1.out.2.2 H1.out.1).mono ?_
  rintro e2 w2 ⟨C, rfl, hh2, ho2⟩
  obtain ⟨G, eG⟩ : ∃ G, G = w2.heap.size := ⟨_, rfl⟩
  obtain ⟨base, ebase⟩ : ∃ n, n = w1.heap.size := ⟨_, rfl⟩
  rw [← ebase] at hh2
  have hP0 : SnP w base C w2.heap.size B G sn0 (w2.alloc (.cells #[.string ⟨#[97]⟩, .string ⟨#[98]⟩, .string ⟨#[99]⟩] 9)) :=
    ⟨hh2.keep ((Only.refl _ _).alloc _), (H1.out.2.1.only ho2 (fun e => e)).alloc _, by rw [eG]; exact Blk.new w2 _ _⟩
  have HP0 := Lib.hid hP0
  have EG := Lib.hid eG
  clear hP0 hh2 ho2 H1 eG ebase
  go_upto_region 4 with (fail)
  rw [← EG.out]
  rw [← EG.out] at HP0
  refine wp_gen (SnP w base C G B G sn0) HP0.out ?_
  clear HP0
  intro Z hZ
  have HZ := Lib.hid hZ
  clear hZ EG
  go_wp2_with fail
  refine (HHA.out _ _ _ _ _ HZ.out).mono ?_
  rintro e3 w3 ⟨rfl, ho3⟩
  have HZ3 := Lib.hid (HZ.out.keep ho3)
  clear ho3 HZ
  go_wp2_with fail
  refine (HHB.out _ _ _ _ _ HZ3.out).mono ?_
  rintro e4 w4 ⟨rfl, ho4⟩
  have HZ4 := Lib.hid (HZ3.out.keep ho4)
  clear ho4 HZ3
  go_wp2_with fail
  refine (HHX.out _).mono ?_
  rintro e5 w5 ⟨rfl, ho5⟩
  have HZ5 := Lib.hid (HZ4.out.keep (((Only.refl NoneOf _).alloc _).trans ho5))
  clear ho5 HZ4
  obtain ⟨W3, ew3, st1, st2, st3, f1, f2, f3, o3⟩ := three_heads w5 LA.out LB.out LX.out w5.heap.size (w5.heap.size + 1) (w5.heap.size + 1 + 1) rfl rfl rfl
  subst ew3
  have hnw := hdNew_run
  obtain ⟨A1, eA1⟩ : ∃ n, n = w5.heap.size := ⟨_, rfl⟩
  have hS5 : SnS w base C G B A1 (A1 + 1) (A1 + 1 + 1) a b x (.slice none 0 0) [] sn0 (((((w5.alloc (.cells hd0C tHd)).alloc (.cells hd0C tHd)).alloc (.cells hd0C tHd)).setCells w5.heap.size 0 (hdC a)).setCells (w5.heap.size + 1) 0 (hdC b) |>.setCells (w5.heap.size + 1 + 1) 0 (hdC x)) := by
    have h := HZ5.out.keep o3
    rw [eA1]
    exact ⟨h.has, h.wd, ⟨rfl, .inl ⟨rfl, rfl⟩⟩, f1, f2, f3⟩
  have HP5 := Lib.hid (And.intro (HZ5.out.keep o3) hS5)
  have EA1 := Lib.hid eA1
  clear f1 f2 f3 o3 hS5 eA1 HZ5
  go_upto_region 5 with (fail)
  rw [← EA1.out]
  rw [← EA1.out] at HP5
  refine wp_gen (fun W => SnP w base C G B G sn0 W ∧ SnS w base C G B A1 (A1 + 1) (A1 + 1 + 1) a b x (.slice none 0 0) [] sn0 W) HP5.out ?_
  clear HP5 st1 st2 st3 hnw EA1
  intro Y hY
  have HY := Lib.hid hY
  clear hY
  go_wp2_with fail
  refine (HGR.out _ _ _ _ _ HY.out.1).mono ?_
  rintro e6 w6 ⟨gv, rfl, hgv, ho6⟩
  have hS6 : SnS w base C G B A1 (A1 + 1) (A1 + 1 + 1) a b x gv Q sn0 w6 := by
    have h := HY.out.2.keep ho6
    exact ⟨h.has, h.wd, own_lower hgv (HY.out.2.has.only).size, h.a, h.b, h.x⟩
  have H6 := Lib.hid hS6
  clear hgv ho6 hS6 HY
  go_wp2_with fail
  refine (K0.out _ _ _ _ _ _ _ _ H6.out).mono ?_
  rintro e7 w7 ⟨rfl, t7, hS7⟩
  have lw := wd_load hS7.wd
  rw [← EWV.out] at lw
  have lh := hd_load (blk_range hS7.a) LA.out
  have H7 := Lib.hid hS7
  clear hS7 H6
  go_wp2_with fail
  refine (HV14.out _ _ OA.out).mono ?_
  rintro e8 w8 ⟨v8, rfl, hv8, ho8⟩
  have H8 := Lib.hid (And.intro (H7.out.keep ho8) (own_lower hv8 H7.out.has.size))
  clear hv8 ho8 lw lh H7
  go_wp2_with fail
  refine (K1.out _ _ _ _ _ _ _ _ _ H8.out.1 H8.out.2).mono ?_
  rintro e9 w9 ⟨rfl, t9, hS9⟩
  have lw := wd_load hS9.wd
  rw [← EWV.out] at lw
  have lh := hd_load (blk_range hS9.b) LB.out
  have H9 := Lib.hid hS9
  clear hS9 H8
  go_wp2_with fail
  refine (HV14.out _ _ OB.out).mono ?_
  rintro e10 w10 ⟨v10, rfl, hv10, ho10⟩
  have H10 := Lib.hid (And.intro (H9.out.keep ho10) (own_lower hv10 H9.out.has.size))
  clear hv10 ho10 lw lh H9
  go_wp2_with fail
  refine (K2.out _ _ _ _ _ _ _ _ _ H10.out.1 H10.out.2).mono ?_
  rintro e11 w11 ⟨rfl, t11, hS11⟩
  have lw := wd_load hS11.wd
  rw [← EWV.out] at lw
  have lh := hd_load (blk_range hS11.a) LA.out
  have H11 := Lib.hid hS11
  clear hS11 H10
  go_wp2_with fail
  refine (HV14.out _ _ OA.out).mono ?_
  rintro e12 w12 ⟨v12, rfl, hv12, ho12⟩
  have H12 := Lib.hid (And.intro (H11.out.keep ho12) (own_lower hv12 H11.out.has.size))
  clear hv12 ho12 lw lh H11
  go_wp2_with fail
  refine (K3.out _ _ _ _ _ _ _ _ _ H12.out.1 H12.out.2).mono ?_
  rintro e13 w13 ⟨rfl, t13, hS13⟩
  have H13 := Lib.hid hS13
  clear hS13 H12
  go_wp2_with fail
  refine (KB2.out _ _ _ _ _ _ _ _ H13.out).mono ?_
  rintro e14 w14 ⟨o14, rfl, hb14, ho14⟩
  obtain ⟨bA, bcap, rfl, _, _, _⟩ := hb14
  have hS14 := H13.out.keep ho14
  have lw := wd_load hS14.wd
  rw [← EWV.out] at lw
  have lh := hd_load (blk_range hS14.x) LX.out
  have H14 := Lib.hid hS14
  clear hS14 ho14 H13
  go_wp2_with fail
  refine (HV28.out _ _ OX.out).mono ?_
  rintro e15 w15 ⟨v15, rfl, hv15, ho15⟩
  have H15 := Lib.hid (And.intro (H14.out.keep ho15) (own_lower hv15 H14.out.has.size))
  clear hv15 ho15 lw lh H14
  go_wp2_with fail
  refine (K4.out _ _ _ _ _ _ _ _ _ H15.out.1 H15.out.2).mono ?_
  rintro e16 w16 ⟨rfl, t16, hS16⟩
  have H16 := Lib.hid hS16
  clear hS16 H15
  go_wp2_with fail
  refine (KB4.out _ _ _ _ _ _ _ _ H16.out).mono ?_
  rintro e17 w17 ⟨o17, rfl, hb17, ho17⟩
  obtain ⟨cA, ccap, rfl, c1, c2, c3⟩ := hb17
  obtain ⟨g, o, rfl, hg, r1⟩ := c3 0 _ rfl
  obtain ⟨g', o', e', _, r2⟩ := c3 1 _ rfl
  cases e'
  have q1 := r1 0 _ rfl
  have q2 := r1 1 _ rfl
  have q3 := r2 0 _ rfl
  simp only [Nat.zero_mul, Nat.add_zero, Nat.one_mul] at q1 q2 q3
  have HF := Lib.hid (H16.out.keep ho17).has.only
  clear c3 r1 r2 ho17 H16
  go_wp2_with fail
  go_ret
  exact ⟨rfl, HF.out⟩
end Go.Proofs.YtgalfohobgjelaaGreatDoor
