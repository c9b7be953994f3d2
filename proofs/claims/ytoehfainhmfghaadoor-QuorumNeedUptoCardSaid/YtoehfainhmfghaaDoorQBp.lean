/- What is proved here: how votes for heads are counted in a map: plain laws. No conditions. -/
import Derived.Test.YtoehfainhmfghaaDoorQGd
import Derived.Test.YtoehfainhmfghaaDoorQGh
namespace Go.Proofs.YtoehfainhmfghaaDoor
open Go.RowKit
def hdV (h : Hd) : Value := .agg (hdC h).toArray
theorem bv_inj {x y : UInt8} (h : bv x = bv y) : x = y := by
  unfold bv at h
  simp only [Value.int.injEq, true_and] at h
  exact UInt8.toNat_inj.1 (by omega)
theorem map_bv_inj : ∀ {l m : List UInt8}, l.map bv = m.map bv → l = m
  | [], [], _ => rfl
  | [], y :: m, h => by simp at h
  | x :: l, [], h => by simp at h
  | x :: l, y :: m, h => by
    simp only [List.map_cons, List.cons.injEq] at h
    rw [bv_inj h.1, map_bv_inj h.2]
theorem hdV_inj {a b : Hd} (h : hdV a = hdV b) : a = b := by
  unfold hdV at h
  have h' : hdC a = hdC b := by simpa using h
  unfold hdC at h'
  obtain ⟨h1, h2⟩ := List.cons.inj h'
  injection h1 with _ h1
  have h3 := map_bv_inj h2
  obtain ⟨a1, a2⟩ := a
  obtain ⟨b1, b2⟩ := b
  simp only at h1 h3
  rw [h1, h3]
theorem eqv_hd (a b : Hd) : eqv (hdV a) (hdV b) = eqHd a b := by
  rw [Bool.eq_iff_iff, eqv_true, eqHd_true]
  exact ⟨hdV_inj, fun h => by rw [h]⟩
/-- What a map of counts holds: c of each of the heads H. -/
noncomputable def cntF (c : Hd → Nat) (H : List Hd) : Value → Option Value := fun x => (H.find? (fun h => eqv x (hdV h) && decide (0 < c h))).map (fun h => .int .i64 (c h : Int))
theorem cntF_hd {c : Hd → Nat} {H : List Hd} {h : Hd} (hh : h ∈ H) : cntF c H (hdV h) = if 0 < c h then some (.int .i64 (c h : Int)) else none := by
  unfold cntF
  by_cases hc : 0 < c h
  · rw [if_pos hc]
    cases hf : H.find? (fun h' => eqv (hdV h) (hdV h') && decide (0 < c h')) with
    | none =>
      have := List.find?_eq_none.1 hf h hh
      simp [eqv_self, hc] at this
    | some g =>
      have := List.find?_some hf
      simp only [Bool.and_eq_true, eqv_true] at this
      rw [← hdV_inj this.1]
      rfl
  · rw [if_neg hc]
    have : H.find? (fun h' => eqv (hdV h) (hdV h') && decide (0 < c h')) = none := by
      rw [List.find?_eq_none]
      intro g _
      simp only [Bool.and_eq_true, eqv_true, decide_eq_true_eq, not_and]
      intro e
      rw [← hdV_inj e]; exact hc
    rw [this]; rfl
theorem cntF_some {c : Hd → Nat} {H : List Hd} {x v : Value} (h : cntF c H x = some v) : ∃ g ∈ H, x = hdV g ∧ v = .int .i64 (c g : Int) ∧ 0 < c g := by
  unfold cntF at h
  cases hf : H.find? (fun h' => eqv x (hdV h') && decide (0 < c h')) with
  | none => rw [hf] at h; cases h
  | some g =>
    rw [hf] at h
    have h1 := List.find?_some hf
    simp only [Bool.and_eq_true, eqv_true, decide_eq_true_eq] at h1
    simp only [Option.map_some, Option.some.injEq] at h
    exact ⟨g, List.mem_of_find?_eq_some hf, h1.1, h.symm, h1.2⟩
/-- One more. -/
noncomputable def inc1 (c : Hd → Nat) (h : Hd) : Hd → Nat := fun g => if eqHd g h then c g + 1 else c g
theorem cntF_ext {c d : Hd → Nat} {H : List Hd} (h : ∀ g ∈ H, c g = d g) (x : Value) : cntF c H x = cntF d H x := by
  unfold cntF
  have e : H.find? (fun g => eqv x (hdV g) && decide (0 < c g)) = H.find? (fun g => eqv x (hdV g) && decide (0 < d g)) := by
    induction H with
    | nil => rfl
    | cons a l ih =>
      rw [List.find?_cons, List.find?_cons, h a (by simp), ih (fun g hg => h g (by simp [hg]))]
  rw [e]
  cases hf : H.find? (fun g => eqv x (hdV g) && decide (0 < d g)) with
  | none => rfl
  | some g => simp only [Option.map_some]; rw [h g (List.mem_of_find?_eq_some hf)]
theorem cntF_put {c : Hd → Nat} {H : List Hd} {h : Hd} (hh : h ∈ H) (x : Value) : put1 (cntF c H) (hdV h) (.int .i64 ((c h : Int) + 1)) x = cntF (inc1 c h) H x := by
  by_cases e : x = hdV h
  · subst e
    rw [put1_same, cntF_hd hh]
    unfold inc1
    rw [if_pos (eqHd_true.2 rfl), if_pos (by omega)]
    rfl
  · rw [put1_other e]
    unfold cntF
    have e1 : ∀ g, eqv x (hdV g) = true → inc1 c h g = c g := fun g hg => by
      unfold inc1
      rw [if_neg]
      intro h1
      rw [eqHd_true.1 h1] at hg
      exact e (eqv_true.1 hg)
    have e2 : H.find? (fun g => eqv x (hdV g) && decide (0 < c g)) = H.find? (fun g => eqv x (hdV g) && decide (0 < inc1 c h g)) := by
      congr 1
      funext g
      cases hg : eqv x (hdV g) with
      | false => rfl
      | true => rw [e1 g hg]
    rw [e2]
    cases hf : H.find? (fun g => eqv x (hdV g) && decide (0 < inc1 c h g)) with
    | none => rfl
    | some g =>
      have := List.find?_some hf
      simp only [Bool.and_eq_true] at this
      simp only [Option.map_some]
      rw [e1 g this.1]
/-- An officer has voted for a head. -/
noncomputable def hasV (L : List Vt) (p : Pers) (h : Hd) : Bool := L.any (fun v => eqHd v.head h && cnts p v)
theorem votesFor_eq (O : List Pers) (L : List Vt) (h : Hd) : votesFor O L h = O.countP (fun p => hasV L p h) := rfl
def idV (p : Pers) : Value := .int .i64 p.id
/-- What has been counted, where 'left' says which officers are to come. -/
noncomputable def cDone (O : List Pers) (L : List Vt) (left : Value → Bool) (h : Hd) : Nat := O.countP (fun p => !left (idV p) && hasV L p h)
/-- .. and of officer p what 'left2' says. -/
noncomputable def cIn (O : List Pers) (L : List Vt) (left : Value → Bool) (p : Pers) (left2 : Value → Bool) (h : Hd) : Nat := cDone O L left h + if !left2 (hdV h) && hasV L p h then 1 else 0
theorem cDone_end {O : List Pers} {L : List Vt} {left : Value → Bool} (h : ∀ p ∈ O, ∀ g, hasV L p g = true → left (idV p) = false) (g : Hd) : cDone O L left g = votesFor O L g := by
  rw [votesFor_eq]
  unfold cDone
  apply List.countP_congr
  intro p hp
  constructor
  · intro h1; exact (Bool.and_eq_true _ _ ▸ h1).2
  · intro h1; rw [h p hp g h1]; simpa using h1
theorem cDone_zero {O : List Pers} {L : List Vt} {left : Value → Bool} (h : ∀ p ∈ O, ∀ g, hasV L p g = true → left (idV p) = true) (g : Hd) : cDone O L left g = 0 := by
  unfold cDone
  rw [List.countP_eq_zero]
  intro p hp h1
  simp only [Bool.and_eq_true, Bool.not_eq_true'] at h1
  rw [h p hp g h1.2] at h1
  exact Bool.noConfusion h1.1
theorem cDone_step {O : List Pers} (hO : O.Pairwise (fun p q => p.id ≠ q.id)) {L : List Vt} {left : Value → Bool} {p : Pers} (hp : p ∈ O) (hl : left (idV p) = true) (g : Hd) :
    cDone O L (fun x => left x && !eqv x (idV p)) g = cDone O L left g + if hasV L p g then 1 else 0 := by
  unfold cDone
  induction O with
  | nil => cases hp
  | cons q l ih =>
    obtain ⟨h1, h2⟩ := List.pairwise_cons.1 hO
    rw [List.countP_cons, List.countP_cons]
    rcases List.mem_cons.1 hp with rfl | hp'
    · have hrest : l.countP (fun r => !(left (idV r) && !eqv (idV r) (idV p)) && hasV L r g) = l.countP (fun r => !left (idV r) && hasV L r g) := by
        apply List.countP_congr
        intro r hr
        have hne : eqv (idV r) (idV p) = false := by
          unfold idV; rw [eqv_int]
          simpa using h1 r hr
        rw [hne, Bool.not_false, Bool.and_true]
      rw [hrest]
      simp [hl, eqv_self]
    · have hne : eqv (idV q) (idV p) = false := by
        unfold idV; rw [eqv_int]
        simpa using fun e => h1 p hp' e.symm
      rw [ih h2 hp']
      simp only [hne, Bool.not_false, Bool.and_true]
      omega
theorem hasV_iff {L : List Vt} {p : Pers} {h : Hd} : hasV L p h = true ↔ ∃ v ∈ L, v.head = h ∧ cnts p v = true := by
  unfold hasV
  rw [List.any_eq_true]
  constructor
  · rintro ⟨v, hv, h1⟩
    simp only [Bool.and_eq_true, eqHd_true] at h1
    exact ⟨v, hv, h1⟩
  · rintro ⟨v, hv, h1, h2⟩
    exact ⟨v, hv, by rw [h2, Bool.and_true, eqHd_true]; exact h1⟩
theorem cIn_start {O : List Pers} {L : List Vt} {left : Value → Bool} {p : Pers} {left2 : Value → Bool} (h : ∀ g, hasV L p g = true → left2 (hdV g) = true) (g : Hd) : cIn O L left p left2 g = cDone O L left g := by
  unfold cIn
  rw [if_neg]
  · rfl
  · intro h1
    simp only [Bool.and_eq_true, Bool.not_eq_true'] at h1
    rw [h g h1.2] at h1
    exact Bool.noConfusion h1.1
theorem cIn_step {O : List Pers} {L : List Vt} {left : Value → Bool} {p : Pers} {left2 : Value → Bool} {h : Hd} (hv : hasV L p h = true) (hl : left2 (hdV h) = true) (g : Hd) :
    cIn O L left p (fun x => left2 x && !eqv x (hdV h)) g = inc1 (cIn O L left p left2) h g := by
  unfold inc1
  cases e : eqHd g h with
  | true =>
    have := eqHd_true.1 e
    subst this
    rw [if_pos rfl]
    unfold cIn
    simp [hl, eqv_self, hv]
  | false =>
    rw [if_neg (by simp)]
    unfold cIn
    simp [eqv_hd, e]
theorem cIn_end {O : List Pers} (hO : O.Pairwise (fun p q => p.id ≠ q.id)) {L : List Vt} {left : Value → Bool} {p : Pers} {left2 : Value → Bool} (hp : p ∈ O) (hlp : left (idV p) = true) (h : ∀ g, hasV L p g = true → left2 (hdV g) = false) (g : Hd) : cIn O L left p left2 g = cDone O L (fun x => left x && !eqv x (idV p)) g := by
  rw [cDone_step hO hp hlp]
  unfold cIn
  cases hv : hasV L p g with
  | false => simp
  | true => rw [h g hv]; simp
end Go.Proofs.YtoehfainhmfghaaDoor
