/- What is proved here: signatures of events are verified, by the program and by the reference. Conditions: name and text are short; the table of powers of ten reads as its initialiser lays it. -/
import Derived.Test.YtclpebgjmgfigaaGreatDoorEvQ
import Derived.Test.YtclpebgjmgfigaaGreatDoorM8
namespace Go.Proofs.YtclpebgjmgfigaaGreatDoor
open Go.RowKit Go.Shelf
attribute [local go_sem ↓ high] evStore_eq evLoad_eq
/-- A person. -/
structure Pers where
  id : Int
  role : Int
  pub : Int
def persC (p : Pers) : List Value := [.int .i64 p.id, .int .i64 p.role, .int .i64 p.pub]
/-- A slice that reads as these persons. -/
def PerSl (w : World) (v : Value) (P : List Pers) : Prop :=
  ∃ A cap, v = .slice A P.length cap ∧ P.length ≤ cap ∧ cap ≤ 9223372036854775807 ∧ ∀ (i : Nat) (p : Pers), P[i]? = some p → ∃ g o, A = some ⟨g, o, none⟩ ∧ g < w.heap.size ∧ w.rangeAt g (o + i * 3) (persC p)
theorem PerSl.only {w w' : World} {v : Value} {P : List Pers} (h : PerSl w v P) (ho : Only NoneOf w w') : PerSl w' v P := by
  obtain ⟨A, cap, hv, h1, h2, h3⟩ := h
  refine ⟨A, cap, hv, h1, h2, fun i p hp => ?_⟩
  obtain ⟨g, o, hA, hg, hr⟩ := h3 i p hp
  exact ⟨g, o, hA, Nat.lt_of_lt_of_le hg ho.size, range_only hr ho⟩
/-- Where the first person with an Id stands. -/
def idxN (who : Int) : Nat → List Pers → Option Nat
  | _, [] => none
  | k, p :: l => if p.id = who then some k else idxN who (k + 1) l
def idxV : Option Nat → Int
  | some k => (k : Int)
  | none => -1
/-- What is found of an event's signature. -/
noncomputable def verL (P : List Pers) (e : Ev) : Int :=
  match P with
  | [] => 35
  | p :: l => if p.id = e.who then (if goodB p.pub (evText e) e.r e.s = true then 0 else 21) else verL l e
theorem verL_none (e : Ev) : ∀ (P : List Pers) (k : Nat), idxN e.who k P = none → verL P e = 35
  | [], _, _ => rfl
  | p :: l, k, h => by
    unfold idxN at h
    by_cases hp : p.id = e.who
    · rw [if_pos hp] at h; cases h
    · rw [if_neg hp] at h
      rw [verL, if_neg hp]
      exact verL_none e l (k + 1) h
theorem verL_some (e : Ev) : ∀ (P : List Pers) (k j : Nat), idxN e.who k P = some j → k ≤ j ∧ ∃ p, P[j - k]? = some p ∧ p.id = e.who ∧ verL P e = if goodB p.pub (evText e) e.r e.s = true then 0 else 21
  | [], _, _, h => by cases h
  | p :: l, k, j, h => by
    unfold idxN at h
    by_cases hp : p.id = e.who
    · rw [if_pos hp, Option.some.injEq] at h
      subst h
      exact ⟨Nat.le_refl _, p, by rw [Nat.sub_self]; rfl, hp, by rw [verL, if_pos hp]⟩
    · rw [if_neg hp] at h
      obtain ⟨h1, q, h2, h3, h4⟩ := verL_some e l (k + 1) j h
      refine ⟨by omega, q, ?_, h3, ?_⟩
      · rw [show j - k = (j - (k + 1)) + 1 by omega]; exact h2
      · rw [verL, if_neg hp]; exact h4
set_option maxRecDepth 100000 in
theorem same_who (p : Pers) (B : Nat) (e : Ev) (w : World) (hE : EvAt w B e) : Calls Tryz.prog 50 #[.agg #[.int .i64 p.id, .int .i64 p.role, .int .i64 p.pub], .pointer (some ⟨B, 0, none⟩)] w fun e' w' => e' = .returned (.bool (p.id == e.who)) ∧ Only NoneOf w w' := by
  have hlt := hE.lt
  have h2 : (w.alloc (.cells #[.int .i64 p.id, .int .i64 p.role, .int .i64 p.pub] 91)).cell? ⟨B, 2, none⟩ = some (.int .i64 e.who) := ev_cell (Blk.alloc hE _) 2
  have HLT := Lib.hid hlt
  clear hE hlt
  go_enter Tryz.func50, Tryz.ntmps50
  go_wp2_with fail
  go_ret
  exact ⟨rfl, (Only.refl _ _).alloc _⟩
set_option maxRecDepth 100000 in
set_option maxHeartbeats 1000000 in
theorem index_any (P : List Pers) (e : Ev) (B : Nat) (pv : Value) (w : World) (hp : PerSl w pv P) (he : EvAt w B e) : Calls Tryz.prog 49 #[pv, .func (.func 50) #[] #[.pointer (some ⟨B, 0, none⟩)]] w fun e' w' => e' = .returned (.int .i64 (idxV (idxN e.who 0 P))) ∧ Only NoneOf w w' := by
  obtain ⟨A, cap, rfl, hlc, hcm, hA⟩ := hp
  have HA := Lib.hid hA
  have HE := Lib.hid he
  clear hA he
  go_enter Tryz.func49, Tryz.ntmps49
  go_wp2_with fail
  go_loopw [8] (fun i wr => ∃ k : Nat, i = .int .i64 k ∧ k ≤ P.length ∧ idxN e.who 0 P = idxN e.who k (P.drop k) ∧ Only NoneOf w wr) (fun i _ => P.length - (intOf i).toNat)
  case atStart => exact ⟨0, rfl, by omega, rfl, Only.refl _ _⟩
  case round =>
    obtain ⟨k, rfl, hk, hst, ho⟩ := hrel
    by_cases hlt : k < P.length
    · obtain ⟨p, hp⟩ : ∃ p, P[k]? = some p := ⟨_, List.getElem?_eq_getElem hlt⟩
      obtain ⟨g, o, rfl, hg, hr⟩ := HA.out k p hp
      have hr2 := range_only hr ho
      have c0 : wr.cell? ⟨g, o + k * 3, none⟩ = some (.int .i64 p.id) := hr2 0 _ rfl
      have c1 : wr.cell? ⟨g, o + k * 3 + 1, none⟩ = some (.int .i64 p.role) := hr2 1 _ rfl
      have c2 : wr.cell? ⟨g, o + k * 3 + 2, none⟩ = some (.int .i64 p.pub) := hr2 2 _ rfl
      have hd : P.drop k = p :: P.drop (k + 1) := by rw [List.drop_eq_getElem_cons hlt]; rw [List.getElem?_eq_getElem hlt] at hp; rw [Option.some.inj hp]
      rw [hd] at hst
      have ik : (k : Int) < (P.length : Int) := by omega
      have ik0 : (0 : Int) ≤ (k : Int) := by omega
      have HST := Lib.hid hst
      have HO := Lib.hid ho
      clear hst ho hp hr hr2 hd
      go_wp2_with fail
      refine (same_who p B e wr (HE.out.only HO.out (fun e => e))).mono ?_
      rintro e1 w1 ⟨rfl, ho1⟩
      have HO1 := Lib.hid (HO.out.trans ho1)
      clear ho1 c0 c1 c2
      by_cases hw : p.id = e.who
      · have hb : (p.id == e.who) = true := beq_iff_eq.2 hw
        rw [hb]
        have hres : idxN e.who 0 P = some k := by rw [HST.out, idxN, if_pos hw]
        have HRES := Lib.hid hres
        clear hb hres hw
        go_wp2_with fail
        go_ret
        exact ⟨by rw [HRES.out]; rfl, HO1.out⟩
      · have hb : (p.id == e.who) = false := beq_eq_false_iff_ne.2 hw
        rw [hb]
        have hres : idxN e.who 0 P = idxN e.who (k + 1) (P.drop (k + 1)) := by rw [HST.out, idxN, if_neg hw]
        have HRES := Lib.hid hres
        clear hb hres hw
        go_wp2_with fail
        go_roundw
        case rel => exact ⟨k + 1, by go_num, by omega, HRES.out, HO1.out⟩
        case measure => simp [intOf]; omega
    · obtain rfl : k = P.length := by omega
      have hres : idxN e.who 0 P = none := by rw [hst, List.drop_length, idxN]
      have HRES := Lib.hid hres
      have HO := Lib.hid ho
      clear hst ho hres
      go_wp2_with fail
      go_ret
      exact ⟨by rw [HRES.out]; rfl, HO.out⟩
/-- What holds while a signature is verified: the setup in block B, the event in the next. -/
structure VeS (w : World) (B : Nat) (pv : Value) (P : List Pers) (e : Ev) (Z : World) : Prop where
  pers : Z.cell? ⟨B, 0, none⟩ = some pv
  sl : PerSl Z pv P
  ev : EvAt Z (B + 1) e
  only : Only NoneOf w Z
theorem VeS.keep {w Z Z' : World} {B : Nat} {pv : Value} {P : List Pers} {e : Ev} (h : VeS w B pv P e Z) (ho : Only NoneOf Z Z') : VeS w B pv P e Z' :=
  ⟨ho.cell_some h.pers (fun e => e), h.sl.only ho, h.ev.only ho (fun e => e), h.only.trans ho⟩
theorem VeS.new (w : World) (pv v1 v2 v3 v4 v5 : Value) (P : List Pers) (e : Ev) (hp : PerSl w pv P) (B : Nat) (hB : B = w.heap.size) : VeS w B pv P e ((w.alloc (.cells #[pv, v1, v2, v3, v4, v5] 58)).alloc (.cells (evC e).toArray 29)) := by
  have h1 := Blk.new (w.alloc (.cells #[pv, v1, v2, v3, v4, v5] 58)) tEv (evC e).toArray
  rw [World.size_alloc, ← hB] at h1
  have h2 := (Blk.new w 58 #[pv, v1, v2, v3, v4, v5]).alloc (.cells (evC e).toArray 29)
  rw [← hB] at h2
  exact ⟨h2.cell 0, hp.only (((Only.refl _ _).alloc _).alloc _), h1, ((Only.refl _ _).alloc _).alloc _⟩
set_option maxRecDepth 100000 in
set_option maxHeartbeats 4000000 in
theorem everify_any (P : List Pers) (pv v1 v2 v3 v4 v5 : Value) (e : Ev) (he : e.Ok) (hn : e.name.size ≤ 4398046511104) (hx : e.text.size ≤ 4398046511104) (w : World) (hp : PerSl w pv P) (hpub : ∀ p ∈ P, In p.pub) (ht : Tab w) :
    Calls Tryz.prog 26 #[.agg #[pv, v1, v2, v3, v4, v5], .agg (evC e).toArray] w fun e' w' => e' = .returned (.int .i64 (verL P e)) ∧ Only NoneOf w w' := by
  obtain ⟨B, eB⟩ : ∃ B, B = w.heap.size := ⟨_, rfl⟩
  have hV := VeS.new w pv v1 v2 v3 v4 v5 P e hp B eB
  have hmf : ∀ (fn : Fn) (first cap : Array Value) (w : World), (Instr.makeFunc fn first cap).run Tryz.prog w = .ok (.func fn first cap) w := fun _ _ _ _ => rfl
  have HV := Lib.hid hV
  have HT := Lib.hid ht
  have HE := Lib.hid he
  have HN := Lib.hid hn
  have HX := Lib.hid hx
  have HEB := Lib.hid eB
  have HPUB := Lib.hid hpub
  clear hV hp ht he hn hx eB hpub
  go_enter Tryz.func26, Tryz.ntmps26
  go_upto_region 1 with (fail)
  rw [← HEB.out]
  refine wp_gen (VeS w B pv P e) HV.out ?_
  intro Z hZ
  have c0 := hZ.pers
  have HZ := Lib.hid hZ
  clear hZ HV
  go_wp2_with fail
  refine (index_any P e (B + 1) pv Z HZ.out.sl HZ.out.ev).mono ?_
  rintro e1 w1 ⟨rfl, ho1⟩
  have HZ1 := Lib.hid (HZ.out.keep ho1)
  clear ho1 HZ c0
  cases hi : idxN e.who 0 P with
  | none =>
    have hres := verL_none e P 0 hi
    have HRES := Lib.hid hres
    have e0 : idxV none = -1 := rfl
    rw [e0]
    clear hres hi
    go_wp2_with fail
    go_ret
    exact ⟨by rw [HRES.out]; rfl, HZ1.out.only⟩
  | some k =>
    obtain ⟨_, p, hpk, hid, hres⟩ := verL_some e P 0 k hi
    rw [Nat.sub_zero] at hpk
    obtain ⟨A, cap, rfl, hlc, hcm, hA⟩ := HZ1.out.sl
    obtain ⟨g, o, rfl, hg, hr⟩ := hA k p hpk
    have hk : k < P.length := (List.getElem?_eq_some_iff.1 hpk).1
    have e0 : idxV (some k) = (k : Int) := rfl
    rw [e0]
    have k0 : ¬ (k : Int) < 0 := by omega
    have k1 : (0 : Int) ≤ (k : Int) := by omega
    have k2 : (k : Int) < (P.length : Int) := by omega
    have kd : decide ((k : Int) < 0) = false := decide_eq_false k0
    obtain ⟨T, hT⟩ : ∃ T : ByteArray, T.data.toList = evText e := ⟨⟨(evText e).toArray⟩, by simp⟩
    have hts : T.size ≤ 17592186044416 := by
      have l1 := numsL_len e.nums HE.out.nums_in
      have l2 := hexL_len e.prev
      have hn := HN.out
      have hx := HX.out
      have l3 := quoL_len e.name.data.toList (by rw [← size_list]; omega)
      have l4 := quoL_len e.text.data.toList (by rw [← size_list]; omega)
      rw [← size_list] at l3 l4
      rw [HE.out.prev] at l2
      have l5 : e.nums.length = 10 := rfl
      rw [size_list, hT]
      unfold evText
      simp only [List.length_append, List.length_cons, List.length_nil]
      omega
    have hpp := HPUB.out p (List.mem_of_getElem? hpk)
    have f1 : ∀ W, VeS w B (.slice (some ⟨g, o, none⟩) P.length cap) P e W → Calls Tryz.prog 11 #[.agg (evC e).toArray] W (fun e' w' => e' = .returned (.string T) ∧ Only NoneOf W w') := fun W h => (etext_any e HE.out (by have := HN.out; omega) (by have := HX.out; omega) W (HT.out.none h.only)).mono (by rintro e' w' ⟨t, rfl, ht, ho⟩; exact ⟨by rw [bytes_ext (ht.trans hT.symm)], ho⟩)
    obtain ⟨gb, egb⟩ : ∃ b, b = goodB p.pub (evText e) e.r e.s := ⟨_, rfl⟩
    have f2 : ∀ W, Calls Tryz.prog 51 #[.int .i64 p.pub, .string T, .agg #[.int .i64 e.r, .int .i64 e.s]] W (fun e' w' => e' = .returned (.bool gb) ∧ Only NoneOf W w') := fun W => by
      rw [egb, ← hT]
      exact sverify_any p.pub e.r e.s T W hts hpp.1 hpp.2 HE.out.r.1 HE.out.r.2
    have cp : ∀ W, VeS w B (.slice (some ⟨g, o, none⟩) P.length cap) P e W → W.cell? ⟨g, o + k * 3 + 2, none⟩ = some (.int .i64 p.pub) := fun W h => by
      obtain ⟨A', cap', hv, _, _, h3⟩ := h.sl
      obtain ⟨g', o', hA', _, hr'⟩ := h3 k p hpk
      simp only [Value.slice.injEq] at hv
      rw [← hv.1] at hA'
      simp only [Option.some.injEq, Addr.mk.injEq, and_true] at hA'
      obtain ⟨rfl, rfl⟩ := hA'
      exact hr' 2 _ rfl
    have cb : ∀ W, VeS w B (.slice (some ⟨g, o, none⟩) P.length cap) P e W → W.cell? ⟨B, 0, none⟩ = some (.slice (some ⟨g, o, none⟩) P.length cap) := fun W h => h.pers
    have cl : ∀ W, VeS w B (.slice (some ⟨g, o, none⟩) P.length cap) P e W → (evLoad (.pointer (some ⟨B + 1, 0, none⟩))).run Tryz.prog W = .ok (.agg (evC e).toArray) W := fun W h => ev_load h.ev HE.out.prev
    have c44 : ∀ W, VeS w B (.slice (some ⟨g, o, none⟩) P.length cap) P e W → W.cell? ⟨B + 1, 44, none⟩ = some (.int .i64 e.r) := fun W h => (ev_sig h.ev HE.out.prev).1
    have c45 : ∀ W, VeS w B (.slice (some ⟨g, o, none⟩) P.length cap) P e W → W.cell? ⟨B + 1, 45, none⟩ = some (.int .i64 e.s) := fun W h => (ev_sig h.ev HE.out.prev).2
    have hS := HZ1.out.keep (Only.refl _ _).drew
    have HKP : Hid (∀ W W', VeS w B (.slice (some ⟨g, o, none⟩) P.length cap) P e W → Only NoneOf W W' → VeS w B (.slice (some ⟨g, o, none⟩) P.length cap) P e W') := Lib.hid (fun W W' h ho => h.keep ho)
    have F1 := Lib.hid f1
    have F2 := Lib.hid f2
    have HRES := Lib.hid hres
    have HGB := Lib.hid egb
    clear f1 f2 hres egb hpp hts hT hpk hid hi hA hr hk HZ1 e0
    go_upto_region 4 with (fail)
    go_region_held3 (fun w' => VeS w B (.slice (some ⟨g, o, none⟩) P.length cap) P e w') (first | assumption)
      (first
        | (go_at_call 11; refine (F1.out _ (by assumption)).mono ?_; rintro e2 w2 ⟨rfl, ho2⟩; have hS2 := HKP.out _ _ (by assumption) ho2; clear ho2)
        | (go_at_call 51; refine (F2.out _).mono ?_; rintro e3 w3 ⟨rfl, ho3⟩; have hS3 := HKP.out _ _ (by assumption) ho3; clear ho3))
    all_goals
      have hr := HRES.out
      rw [← HGB.out] at hr
      cases gb with
      | true =>
        rw [if_pos rfl] at hr
        have HR := Lib.hid hr
        clear hr
        go_wp2_with fail
        go_ret
        exact ⟨by rw [HR.out]; rfl, hS3.only⟩
      | false =>
        rw [if_neg (by simp)] at hr
        have HR := Lib.hid hr
        clear hr
        go_wp2_with fail
        go_ret
        exact ⟨by rw [HR.out]; rfl, hS3.only⟩
set_option maxRecDepth 100000 in
set_option maxHeartbeats 4000000 in
theorem rverifyE_any (P : List Pers) (pv v1 v2 v3 v4 v5 : Value) (e : Ev) (he : e.Ok) (hn : e.name.size ≤ 4398046511104) (hx : e.text.size ≤ 4398046511104) (w : World) (hp : PerSl w pv P) (hpub : ∀ p ∈ P, In p.pub) :
    Calls Tryz.prog 28 #[.agg #[pv, v1, v2, v3, v4, v5], .agg (evC e).toArray] w fun e' w' => e' = .returned (.int .i64 (verL P e)) ∧ Only NoneOf w w' := by
  obtain ⟨B, eB⟩ : ∃ B, B = w.heap.size := ⟨_, rfl⟩
  have hV := VeS.new w pv v1 v2 v3 v4 v5 P e hp B eB
  obtain ⟨A, cap, rfl, hlc, hcm, hA⟩ := hp
  have HV := Lib.hid hV
  have HE := Lib.hid he
  have HN := Lib.hid hn
  have HX := Lib.hid hx
  have HEB := Lib.hid eB
  have HPUB := Lib.hid hpub
  have HA := Lib.hid hA
  clear hV he hn hx eB hpub hA
  go_enter Tryz.func28, Tryz.ntmps28
  go_upto_region 1 with (fail)
  rw [← HEB.out]
  refine wp_gen (VeS w B (.slice A P.length cap) P e) HV.out ?_
  intro Z hZ
  have HZ := Lib.hid hZ
  clear hZ HV
  go_wp2_with fail
  go_loopw [5] (fun i wr => ∃ k : Nat, i = .int .i64 k ∧ k ≤ P.length ∧ verL P e = verL (P.drop k) e ∧ Only NoneOf Z wr) (fun i _ => P.length - (intOf i).toNat)
  case atStart => exact ⟨0, rfl, by omega, rfl, Only.refl _ _⟩
  case round =>
    obtain ⟨k, rfl, hk, hst, ho⟩ := hrel
    have hZr := HZ.out.keep ho
    have cb : wr.cell? ⟨B, 0, none⟩ = some (.slice A P.length cap) := hZr.pers
    by_cases hlt : k < P.length
    · obtain ⟨p, hp⟩ : ∃ p, P[k]? = some p := ⟨_, List.getElem?_eq_getElem hlt⟩
      obtain ⟨g, o, rfl, hg, _⟩ := HA.out k p hp
      have hcp : ∀ W, VeS w B (.slice (some ⟨g, o, none⟩) P.length cap) P e W → W.rangeAt g (o + k * 3) (persC p) := fun W h => by
        obtain ⟨A', cap', hv, _, _, h3⟩ := h.sl
        obtain ⟨g', o', hA', _, hr'⟩ := h3 k p hp
        simp only [Value.slice.injEq] at hv
        rw [← hv.1] at hA'
        simp only [Option.some.injEq, Addr.mk.injEq, and_true] at hA'
        obtain ⟨rfl, rfl⟩ := hA'
        exact hr'
      have c0 : wr.cell? ⟨g, o + k * 3, none⟩ = some (.int .i64 p.id) := hcp _ hZr 0 _ rfl
      have c2 : wr.cell? ⟨B + 1, 2, none⟩ = some (.int .i64 e.who) := ev_cell hZr.ev 2
      have hd : P.drop k = p :: P.drop (k + 1) := by rw [List.drop_eq_getElem_cons hlt]; rw [List.getElem?_eq_getElem hlt] at hp; rw [Option.some.inj hp]
      rw [hd, verL] at hst
      have ik : (k : Int) < (P.length : Int) := by omega
      have ik0 : (0 : Int) ≤ (k : Int) := by omega
      have hpp := HPUB.out p (List.mem_of_getElem? hp)
      have HST := Lib.hid hst
      have HO := Lib.hid ho
      have HZR := Lib.hid hZr
      have HCP := Lib.hid hcp
      have HPP := Lib.hid hpp
      clear hst ho hp hd hZr hcp hpp
      by_cases hw : p.id = e.who
      · have hb : (p.id == e.who) = true := beq_iff_eq.2 hw
        have hres : verL P e = if goodB p.pub (evText e) e.r e.s = true then 0 else 21 := by rw [HST.out, if_pos hw]
        obtain ⟨T, hT⟩ : ∃ T : ByteArray, T.data.toList = evText e := ⟨⟨(evText e).toArray⟩, by simp⟩
        have hts : T.size ≤ 17592186044416 := by
          have l1 := numsL_len e.nums HE.out.nums_in
          have l2 := hexL_len e.prev
          have hn := HN.out
          have hx := HX.out
          have l3 := quoL_len e.name.data.toList (by rw [← size_list]; omega)
          have l4 := quoL_len e.text.data.toList (by rw [← size_list]; omega)
          rw [← size_list] at l3 l4
          rw [HE.out.prev] at l2
          have l5 : e.nums.length = 10 := rfl
          rw [size_list, hT]
          unfold evText
          simp only [List.length_append, List.length_cons, List.length_nil]
          omega
        have f1 : ∀ W, Calls Tryz.prog 12 #[.agg (evC e).toArray] W (fun e' w' => e' = .returned (.string T) ∧ Only NoneOf W w') := fun W => (rtext_any e HE.out (by have := HN.out; omega) (by have := HX.out; omega) W).mono (by rintro e' w' ⟨t, rfl, ht, ho⟩; exact ⟨by rw [bytes_ext (ht.trans hT.symm)], ho⟩)
        obtain ⟨gb, egb⟩ : ∃ b, b = goodB p.pub (evText e) e.r e.s := ⟨_, rfl⟩
        have f2 : ∀ W, Calls Tryz.prog 53 #[.int .i64 p.pub, .string T, .agg #[.int .i64 e.r, .int .i64 e.s]] W (fun e' w' => e' = .returned (.bool gb) ∧ Only NoneOf W w') := fun W => by
          rw [egb, ← hT]
          exact rverify_any p.pub e.r e.s T W hts HPP.out.1 HPP.out.2 HE.out.r.1 HE.out.r.2
        have HRES := Lib.hid hres
        have HGB := Lib.hid egb
        have F1 := Lib.hid f1
        have F2 := Lib.hid f2
        clear hres egb f1 f2 hT hts hw
        go_upto_region 4 with (fail)
        go_quiet (fail)
        have hS0 := HZR.out.keep ((Only.refl _ _).drewN nq)
        have cp : ∀ W, VeS w B (.slice (some ⟨g, o, none⟩) P.length cap) P e W → W.cell? ⟨g, o + k * 3 + 2, none⟩ = some (.int .i64 p.pub) := fun W h => HCP.out W h 2 _ rfl
        have cb2 : ∀ W, VeS w B (.slice (some ⟨g, o, none⟩) P.length cap) P e W → W.cell? ⟨B, 0, none⟩ = some (.slice (some ⟨g, o, none⟩) P.length cap) := fun W h => h.pers
        have cl : ∀ W, VeS w B (.slice (some ⟨g, o, none⟩) P.length cap) P e W → (evLoad (.pointer (some ⟨B + 1, 0, none⟩))).run Tryz.prog W = .ok (.agg (evC e).toArray) W := fun W h => ev_load h.ev HE.out.prev
        have c44 : ∀ W, VeS w B (.slice (some ⟨g, o, none⟩) P.length cap) P e W → W.cell? ⟨B + 1, 44, none⟩ = some (.int .i64 e.r) := fun W h => (ev_sig h.ev HE.out.prev).1
        have c45 : ∀ W, VeS w B (.slice (some ⟨g, o, none⟩) P.length cap) P e W → W.cell? ⟨B + 1, 45, none⟩ = some (.int .i64 e.s) := fun W h => (ev_sig h.ev HE.out.prev).2
        have HKP : Hid (∀ W W', VeS w B (.slice (some ⟨g, o, none⟩) P.length cap) P e W → Only NoneOf W W' → VeS w B (.slice (some ⟨g, o, none⟩) P.length cap) P e W') := Lib.hid (fun W W' h ho => h.keep ho)
        have HS0 := Lib.hid hS0
        clear c0 c2 cb hS0
        go_upto_region 5 with (fail)
        refine wp_gen (VeS w B (.slice (some ⟨g, o, none⟩) P.length cap) P e) HS0.out ?_
        intro Y hY
        have hS := hY.keep (Only.refl _ _).drew
        clear hY HS0
        go_region_held3 (fun w' => VeS w B (.slice (some ⟨g, o, none⟩) P.length cap) P e w') (first | assumption)
          (first
            | (go_at_call 12; refine (F1.out _).mono ?_; rintro e2 w2 ⟨rfl, ho2⟩; have hS2 := HKP.out _ _ (by assumption) ho2; clear ho2)
            | (go_at_call 53; refine (F2.out _).mono ?_; rintro e3 w3 ⟨rfl, ho3⟩; have hS3 := HKP.out _ _ (by assumption) ho3; clear ho3))
        all_goals
          have hr := HRES.out
          rw [← HGB.out] at hr
          cases gb with
          | true =>
            rw [if_pos rfl] at hr
            have HR := Lib.hid hr
            clear hr
            go_wp2_with fail
            go_ret
            exact ⟨by rw [HR.out]; rfl, hS3.only⟩
          | false =>
            rw [if_neg (by simp)] at hr
            have HR := Lib.hid hr
            clear hr
            go_wp2_with fail
            go_ret
            exact ⟨by rw [HR.out]; rfl, hS3.only⟩
      · have hb : (p.id == e.who) = false := beq_eq_false_iff_ne.2 hw
        have hres : verL P e = verL (P.drop (k + 1)) e := by rw [HST.out, if_neg hw]
        have HRES := Lib.hid hres
        clear hres hw
        go_upto_region 4 with (fail)
        go_quiet (fail)
        go_wp2_with fail
        go_roundw
        case rel => exact ⟨k + 1, by go_num, by omega, HRES.out, HO.out.drewN _⟩
        case measure => simp [intOf]; omega
    · obtain rfl : k = P.length := by omega
      have hres : verL P e = 35 := by rw [hst, List.drop_length, verL]
      have HRES := Lib.hid hres
      have HOO := Lib.hid hZr.only
      clear hst ho hres hZr
      go_wp2_with fail
      go_ret
      exact ⟨by rw [HRES.out]; rfl, HOO.out⟩
end Go.Proofs.YtclpebgjmgfigaaGreatDoor
