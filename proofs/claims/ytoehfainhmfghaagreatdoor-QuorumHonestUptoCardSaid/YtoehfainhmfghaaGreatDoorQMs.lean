/- What is proved here: plain facts for the laws on the order of votes, on overlaps, liars and honest officers. No conditions. -/
import Derived.Test.YtoehfainhmfghaaGreatDoorB3
namespace Go.Proofs.YtoehfainhmfghaaGreatDoor
theorem offGo_all : ∀ (l : List Pers) (seen : List Int), (∀ p ∈ l, p.role = 2 ∧ p.id ∉ seen) → l.Pairwise (fun p q => p.id ≠ q.id) → offGo seen l = l
  | [], _, _, _ => rfl
  | p :: l, seen, h, hp => by
    obtain ⟨h1, h2⟩ := List.pairwise_cons.1 hp
    have h0 := h p (by simp)
    unfold offGo
    rw [if_pos ⟨h0.2, h0.1⟩, offGo_all l _ (fun q hq => ⟨(h q (by simp [hq])).1, by
      rw [List.mem_cons, not_or]
      exact ⟨fun e => h1 q hq e.symm, (h q (by simp [hq])).2⟩⟩) h2]
/-- The officers of a setup without odd persons. -/
theorem offs_setB (m : Nat) (hm : m < 50) : offs (setB m) = (List.range m).map (fun j => offAt (j + 1)) := by
  unfold offs setB
  rw [offGo, if_neg (fun h => by have h2 : (1 : Int) = 2 := h.2; omega)]
  refine offGo_all _ _ (fun p hp => ?_) ?_
  · obtain ⟨j, hj, rfl⟩ := List.mem_map.1 hp
    have := List.mem_range.1 hj
    refine ⟨rfl, ?_⟩
    rw [List.mem_cons, not_or]
    exact ⟨fun e => by have h2 : ((j + 1 : Nat) : Int) = 50 := e; omega, List.not_mem_nil⟩
  · rw [List.pairwise_map]
    exact List.pairwise_lt_range.imp (fun {a b} h e => by have h2 : ((a + 1 : Nat) : Int) = ((b + 1 : Nat) : Int) := e; omega)
theorem offs_setB_len (m : Nat) (hm : m < 50) : (offs (setB m)).length = m := by rw [offs_setB m hm]; simp
theorem offAt_mem {m k : Nat} (hm : m < 50) (h1 : 1 ≤ k) (hk : k ≤ m) : offAt k ∈ offs (setB m) := by
  rw [offs_setB m hm]
  exact List.mem_map.2 ⟨k - 1, List.mem_range.2 (by omega), by rw [show k - 1 + 1 = k by omega]⟩
theorem offs_at {m : Nat} (hm : m < 50) {p : Pers} (hp : p ∈ offs (setB m)) : ∃ k, 1 ≤ k ∧ k ≤ m ∧ p = offAt k := by
  rw [offs_setB m hm] at hp
  obtain ⟨j, hj, rfl⟩ := List.mem_map.1 hp
  have := List.mem_range.1 hj
  exact ⟨j + 1, by omega, by omega, rfl⟩
theorem setB_get {m k : Nat} (h1 : 1 ≤ k) (hk : k ≤ m) : (setB m)[k]? = some (offAt k) := by
  obtain ⟨j, rfl⟩ : ∃ j, k = j + 1 := ⟨k - 1, by omega⟩
  unfold setB
  rw [List.getElem?_cons_succ, List.getElem?_map, List.getElem?_range (by omega)]
  rfl
/-! ### Which votes play a part -/
theorem certB_congr {P : List Pers} {L M : List Vt} (h : ∀ p ∈ offs P, ∀ v, cnts p v = true → (v ∈ L ↔ v ∈ M)) (x : Hd) : certB P x L = certB P x M := by
  unfold certB
  rw [votesFor_eq, votesFor_eq]
  have : (offs P).countP (fun p => hasV L p x) = (offs P).countP (fun p => hasV M p x) := by
    apply List.countP_congr
    intro p hp
    rw [hasV_iff, hasV_iff]
    constructor
    · rintro ⟨v, hv, e, c⟩; exact ⟨v, (h p hp v c).1 hv, e, c⟩
    · rintro ⟨v, hv, e, c⟩; exact ⟨v, (h p hp v c).2 hv, e, c⟩
  rw [this]
theorem clashL_congr {ag : Hd → Hd → Bool} {P : List Pers} {L M : List Vt} (h : ∀ p ∈ offs P, L.filter (cnts p) = M.filter (cnts p)) : clashL ag P L = clashL ag P M := by
  unfold clashL clashO
  have : ∀ O : List Pers, (∀ p ∈ O, blmOf ag L p = blmOf ag M p) → O.filterMap (blmOf ag L) = O.filterMap (blmOf ag M) := by
    intro O
    induction O with
    | nil => intro _; rfl
    | cons p l ih =>
      intro hO
      rw [List.filterMap_cons, List.filterMap_cons, hO p (by simp), ih (fun q hq => hO q (by simp [hq]))]
  exact this _ (fun p hp => blmOf_congr (h p hp))
/-- A vote of an officer that counts, as the law on the order of votes tests it. -/
noncomputable def goodV (m : Nat) (v : Vt) : Bool := decide (1 ≤ v.who) && (decide (v.who ≤ (m : Int)) && goodB (pub (secI v.who) : Int) (hdText v.head) v.r v.s)
theorem goodV_of {m : Nat} (hm : m < 50) {p : Pers} (hp : p ∈ offs (setB m)) {v : Vt} (h : cnts p v = true) : goodV m v = true := by
  obtain ⟨k, h1, h2, rfl⟩ := offs_at hm hp
  unfold cnts at h
  simp only [Bool.and_eq_true, beq_iff_eq] at h
  obtain ⟨e, g⟩ := h
  have e' : v.who = (k : Int) := e
  unfold goodV
  rw [e', decide_eq_true (by omega : (1 : Int) ≤ (k : Int)), decide_eq_true (by omega : (k : Int) ≤ (m : Int)), Bool.true_and, Bool.true_and]
  exact g
theorem good_filter {m : Nat} (hm : m < 50) (V : List Vt) {p : Pers} (hp : p ∈ offs (setB m)) : V.filter (cnts p) = (V.filter (goodV m)).filter (cnts p) := by
  rw [List.filter_filter]
  apply List.filter_congr
  intro v _
  cases hc : cnts p v with
  | false => rfl
  | true => rw [goodV_of hm hp hc]; rfl
theorem good_cert {m : Nat} (hm : m < 50) (V : List Vt) (x : Hd) : certB (setB m) x V = certB (setB m) x (V.filter (goodV m)) :=
  certB_congr (fun p hp v c => by rw [List.mem_filter]; exact ⟨fun h => ⟨h, goodV_of hm hp c⟩, fun h => h.1⟩) x
theorem good_clash {m : Nat} (hm : m < 50) (ag : Hd → Hd → Bool) (V : List Vt) : clashL ag (setB m) V = clashL ag (setB m) (V.filter (goodV m)) :=
  clashL_congr (fun _ hp => good_filter hm V hp)
/-- What a list of votes keeps when it is turned, each vote twice. -/
structure Turned (V : List Vt) (k : Nat) (T : List Vt) : Prop where
  len : T.length = 2 * k
  sub : ∀ v ∈ T, v ∈ V
  all : ∀ i v, i < k → V[i]? = some v → v ∈ T
theorem Turned.zero (V : List Vt) : Turned V 0 [] := ⟨rfl, fun _ h => (by cases h), fun _ _ h => (by omega)⟩
theorem Turned.more {V T : List Vt} {k : Nat} (h : Turned V k T) {u v : Vt} (hu : u ∈ V) (hv : V[k]? = some v) : Turned V (k + 1) (T ++ [u, v]) := by
  refine ⟨by rw [List.length_append, h.len]; simp; omega, fun x hx => ?_, fun i x hi hx => ?_⟩
  · rcases List.mem_append.1 hx with hx | hx
    · exact h.sub x hx
    · simp only [List.mem_cons, List.not_mem_nil, or_false] at hx
      rcases hx with rfl | rfl
      · exact hu
      · exact List.mem_of_getElem? hv
  · by_cases e : i = k
    · subst e
      rw [hx] at hv
      cases hv
      simp
    · exact List.mem_append.2 (.inl (h.all i x (by omega) hx))
theorem Turned.mem {V T : List Vt} (h : Turned V V.length T) (v : Vt) : v ∈ T ↔ v ∈ V := by
  refine ⟨h.sub v, fun hv => ?_⟩
  obtain ⟨i, hi, e⟩ := List.mem_iff_getElem.1 hv
  exact h.all i v hi (by rw [List.getElem?_eq_getElem hi, e])
theorem Turned.cert {V T : List Vt} (h : Turned V V.length T) (P : List Pers) (x : Hd) : certB P x V = certB P x T := certB_congr (fun _ _ v _ => (h.mem v).symm) x
theorem Turned.heads {V T : List Vt} (h : Turned V V.length T) (x : Hd) : x ∈ V.map (·.head) ↔ x ∈ T.map (·.head) := by
  rw [List.mem_map, List.mem_map]
  constructor
  · rintro ⟨v, hv, e⟩; exact ⟨v, (h.mem v).2 hv, e⟩
  · rintro ⟨v, hv, e⟩; exact ⟨v, (h.mem v).1 hv, e⟩
theorem Turned.best {V T : List Vt} (h : Turned V V.length T) (P : List Pers) {o : Option Hd} (hb : BestOn (fun x => x ∈ T.map (·.head)) (fun x => certB P x T) o) : BestOn (fun x => x ∈ V.map (·.head)) (fun x => certB P x V) o := by
  have e : (fun x => certB P x V) = (fun x => certB P x T) := funext fun x => h.cert P x
  rw [e]
  exact hb.congr (fun x => (h.heads x).symm)
/-! ### The blames of one officer -/
theorem clash_one {ag : Hd → Hd → Bool} {L : List Vt} : ∀ {O : List Pers}, O.Pairwise (fun p q => p.id ≠ q.id) → ∀ {p : Pers}, p ∈ O → (clashO ag L O).filter (fun b => b.who == p.id) = (blmOf ag L p).toList
  | [], _, _, h => by cases h
  | q :: l, hO, p, hp => by
    obtain ⟨h1, h2⟩ := List.pairwise_cons.1 hO
    have hcons : clashO ag L (q :: l) = (blmOf ag L q).toList ++ clashO ag L l := by
      unfold clashO
      rw [List.filterMap_cons]
      cases blmOf ag L q <;> rfl
    rw [hcons, List.filter_append]
    rcases List.mem_cons.1 hp with rfl | hp'
    · have e2 : (clashO ag L l).filter (fun b => b.who == p.id) = [] := by
        rw [List.filter_eq_nil_iff]
        intro b hb
        obtain ⟨r, hr, e⟩ := List.mem_filterMap.1 hb
        rw [(blmOf_who e).1]
        simp only [beq_iff_eq]
        exact fun e => h1 r hr e.symm
      rw [e2, List.append_nil]
      cases hb : blmOf ag L p with
      | none => rfl
      | some b => simp [(blmOf_who hb).1]
    · have e2 : ((blmOf ag L q).toList).filter (fun b => b.who == p.id) = [] := by
        rw [List.filter_eq_nil_iff]
        intro b hb
        rw [Option.mem_toList] at hb
        rw [(blmOf_who hb).1]
        simp only [beq_iff_eq]
        exact h1 p hp'
      rw [e2, List.nil_append]
      exact clash_one h2 hp'
/-- The liar's votes: the first and the last one. -/
theorem liar_filter (k : Nat) (a b : Hd) (L : List Vt) (hL : ∀ v ∈ L, v.who ≠ (k : Int)) : (vAt a k :: (L ++ [vAt b k])).filter (cnts (offAt k)) = [vAt a k, vAt b k] := by
  have h0 : L.filter (cnts (offAt k)) = [] := by
    rw [List.filter_eq_nil_iff]
    intro v hv
    rw [cnts_other (offAt k) v (hL v hv)]
    decide
  rw [List.filter_cons, cnts_at, decide_eq_true rfl, if_pos rfl, List.filter_append, h0, List.nil_append, List.filter_cons, cnts_at, decide_eq_true rfl, if_pos rfl]
  rfl
theorem liar_blm (ag : Hd → Hd → Bool) (k : Nat) (a b : Hd) (L : List Vt) (hL : ∀ v ∈ L, v.who ≠ (k : Int)) : blmOf ag (vAt a k :: (L ++ [vAt b k])) (offAt k) = if ag a b then none else some ⟨(k : Int), vAt a k, vAt b k⟩ := by
  unfold blmOf
  rw [liar_filter k a b L hL, firstP_cons, List.find?_cons]
  show Option.map _ (match (match (!ag a b) with | true => some (vAt b k) | false => List.find? _ []) with | some u => _ | none => _) = _
  cases ag a b <;> rfl
/-- The blames of the liar among all. -/
theorem liar_count (ag : Hd → Hd → Bool) {m k : Nat} (hm : m < 50) (h1 : 1 ≤ k) (hk : k ≤ m) (a b : Hd) (L : List Vt) (hL : ∀ v ∈ L, v.who ≠ (k : Int)) : (clashL ag (setB m) (vAt a k :: (L ++ [vAt b k]))).countP (fun x => x.who == (k : Int)) = if ag a b then 0 else 1 := by
  have h := clash_one (ag := ag) (L := vAt a k :: (L ++ [vAt b k])) (offs_apart (setB m)) (offAt_mem hm h1 hk)
  rw [liar_blm ag k a b L hL] at h
  rw [List.countP_eq_length_filter]
  have h2 := congrArg List.length h
  refine h2.trans ?_
  cases ag a b <;> rfl
theorem liar_each (ag : Hd → Hd → Bool) {m k : Nat} (hm : m < 50) (h1 : 1 ≤ k) (hk : k ≤ m) (a b : Hd) (L : List Vt) (hL : ∀ v ∈ L, v.who ≠ (k : Int)) {x : Blm} (hx : x ∈ clashL ag (setB m) (vAt a k :: (L ++ [vAt b k]))) (e : x.who = (k : Int)) : x = ⟨(k : Int), vAt a k, vAt b k⟩ := by
  have h := clash_one (ag := ag) (L := vAt a k :: (L ++ [vAt b k])) (offs_apart (setB m)) (offAt_mem hm h1 hk)
  rw [liar_blm ag k a b L hL] at h
  have hm : x ∈ (clashO ag (vAt a k :: (L ++ [vAt b k])) (offs (setB m))).filter (fun b => b.who == (offAt k).id) := List.mem_filter.2 ⟨hx, by simp only [beq_iff_eq]; exact e⟩
  rw [h] at hm
  cases hag : ag a b with
  | true => rw [hag] at hm; simp at hm
  | false => rw [hag] at hm; simpa using hm
/-! ### An honest officer -/
/-- All heads of one list agree. -/
theorem grow_zero (i j : Nat) (h : i < j) (hj : j < 4) : growB (listsG false) (headI (2 * (i : Int))) (headI (2 * (j : Int))) = true := by
  have hT : ∀ a : Hd, eqHd a a = true := eqHd_self
  have hc : (i = 0 ∧ j = 1) ∨ (i = 0 ∧ j = 2) ∨ (i = 0 ∧ j = 3) ∨ (i = 1 ∧ j = 2) ∨ (i = 1 ∧ j = 3) ∨ (i = 2 ∧ j = 3) := by omega
  rcases hc with ⟨rfl, rfl⟩ | ⟨rfl, rfl⟩ | ⟨rfl, rfl⟩ | ⟨rfl, rfl⟩ | ⟨rfl, rfl⟩ | ⟨rfl, rfl⟩
  · show growB (listsG false) (headI 0) (headI 2) = true
    simp [growB, listsG, growRow, hT]
  · show growB (listsG false) (headI 0) (headI 4) = true
    simp [growB, listsG, growRow, hT]
  · show growB (listsG false) (headI 0) (headI 6) = true
    simp [growB, listsG, growRow, hT]
  · show growB (listsG false) (headI 2) (headI 4) = true
    simp [growB, listsG, growRow, hT]
  · show growB (listsG false) (headI 2) (headI 6) = true
    simp [growB, listsG, growRow, hT]
  · show growB (listsG false) (headI 4) (headI 6) = true
    simp [growB, listsG, growRow, hT]
theorem agree_zero (i j : Nat) (hi : i < 4) (hj : j < 4) : agB (growB (listsG false)) (headI (2 * (i : Int))) (headI (2 * (j : Int))) = true := by
  rcases Nat.lt_trichotomy i j with h | rfl | h
  · rw [agB_lt _ (by rw [headI_size, headI_size]; omega)]
    exact grow_zero i j h hj
  · exact agB_self _ _
  · rw [agB_gt _ (by rw [headI_size, headI_size]; omega)]
    exact grow_zero j i h hi
/-- Votes of which each one is the officer's own, for a head of the first list, or does not count for them. -/
def Hon (k : Nat) (L : List Vt) : Prop := ∀ v ∈ L, cnts (offAt k) v = false ∨ ∃ i : Nat, i < 4 ∧ v.head = headI (2 * (i : Int))
theorem hon_blm {k : Nat} {L : List Vt} (h : Hon k L) : blmOf (agB (growB (listsG false))) L (offAt k) = none := by
  unfold blmOf
  rw [firstP_none]
  · rfl
  · intro u hu v hv
    obtain ⟨hu1, hu2⟩ := List.mem_filter.1 hu
    obtain ⟨hv1, hv2⟩ := List.mem_filter.1 hv
    rcases h u hu1 with e | ⟨i, hi, ei⟩
    · rw [hu2] at e; cases e
    · rcases h v hv1 with e | ⟨j, hj, ej⟩
      · rw [hv2] at e; cases e
      · rw [ei, ej]; exact agree_zero i j hi hj
theorem hon_none {m k : Nat} (hm : m < 50) (h1 : 1 ≤ k) (hk : k ≤ m) {L : List Vt} (h : Hon k L) {x : Blm} (hx : x ∈ clashL (agB (growB (listsG false))) (setB m) L) : x.who ≠ (k : Int) := fun e => by
  have h2 := clash_one (ag := agB (growB (listsG false))) (L := L) (offs_apart (setB m)) (offAt_mem hm h1 hk)
  rw [hon_blm h] at h2
  have hm : x ∈ (clashO (agB (growB (listsG false))) L (offs (setB m))).filter (fun b => b.who == (offAt k).id) := List.mem_filter.2 ⟨hx, by simp only [beq_iff_eq]; exact e⟩
  rw [h2] at hm
  simp at hm
theorem Hon.append {k : Nat} {L M : List Vt} (h : Hon k L) (h' : Hon k M) : Hon k (L ++ M) := fun v hv => by
  rcases List.mem_append.1 hv with hv | hv
  · exact h v hv
  · exact h' v hv
theorem not_cnt {k : Nat} {v : Vt} (h : v.who = (k : Int) → goodB (pub (secI (k : Int)) : Int) (hdText v.head) v.r v.s = false) : cnts (offAt k) v = false := by
  by_cases e : v.who = (k : Int)
  · unfold cnts
    rw [show goodB (offAt k).pub (hdText v.head) v.r v.s = false from h e, Bool.and_false]
  · exact cnts_other _ _ e
end Go.Proofs.YtoehfainhmfghaaGreatDoor
