/- What is proved here: a head is certified, by the program. Conditions: the numbers are ints, roots have 32 bytes, there are few votes and persons; the table of powers of ten reads as its initialiser lays it. -/
import Derived.Test.YtoehfainhmfghaaDoorQBa
import Derived.Test.YtoehfainhmfghaaDoorQNd
namespace Go.Proofs.YtoehfainhmfghaaDoor
open Go.RowKit Go.Shelf
attribute [local go_sem ↓ high] hdLoad_eq hdNew_eq hdStore_eq
/-- What lies there of a setup and a head. -/
structure CeS (w : World) (B : Nat) (pv : Value) (h : Hd) (W : World) : Prop where
  s : Blk W B 30 #[pv, .int .i64 0, .slice none 0 0, .slice none 0 0, .int .i64 0, .int .i64 0]
  h : HdAt W (B + 1) h
  only : Only NoneOf w W
/-- How many votes a map of counts tells for a head. -/
theorem cnt_look {w : World} {b n : Nat} {c : Hd → Nat} {L : List Vt} (hm : MapV w Tryd.prog 35 b n (cntF c (L.map (·.head)))) (hz : ∀ h, h ∉ L.map (·.head) → c h = 0) {h : Hd} (ok : h.Ok) :
    (Instr.lookup 49 (.map (some b)) (.agg (hdC h).toArray) false).run Tryd.prog w = .ok (.int .i64 (c h : Int)) w := by
  obtain ⟨kl, hkl⟩ := key_hd ok
  rw [hm.look hd_law Tryd.underlying49 (zero_int _) hkl]
  have hval : (cntF c (L.map (·.head)) (.agg (hdC h).toArray)).getD (.int .i64 0) = .int .i64 (c h : Int) := by
    by_cases hmem : h ∈ L.map (·.head)
    · have h1 := cntF_hd (c := c) hmem
      unfold hdV at h1
      rw [h1]
      by_cases h0 : 0 < c h
      · rw [if_pos h0]; rfl
      · rw [if_neg h0, show c h = 0 by omega]; rfl
    · rw [hz h hmem]
      cases hf : cntF c (L.map (·.head)) (.agg (hdC h).toArray) with
      | none => rfl
      | some v =>
        obtain ⟨g, hg, hx, _⟩ := cntF_some hf
        exact (hmem (hdV_inj (a := h) (b := g) hx ▸ hg)).elim
  rw [hval]
theorem votesFor_out (O : List Pers) (L : List Vt) (h : Hd) (hh : h ∉ L.map (·.head)) : votesFor O L h = 0 := by
  rw [votesFor_eq, List.countP_eq_zero]
  intro p _ hv
  obtain ⟨v, hv1, hv2, _⟩ := hasV_iff.1 hv
  exact hh (List.mem_map.2 ⟨v, hv1, hv2⟩)
theorem votesFor_le (O : List Pers) (L : List Vt) (h : Hd) : votesFor O L h ≤ O.length := by rw [votesFor_eq]; exact List.countP_le_length
set_option maxRecDepth 100000 in
set_option maxHeartbeats 4000000 in
theorem qcert_any (P : List Pers) (hP : PersOk P) (hlen : P.length ≤ 1000) (pv : Value) (h : Hd) (ok : h.Ok) (L : List Vt) (hok : VtsOk L) (hL : L.length ≤ 100000) (sv : Value) (w : World) (hp : PerSl w pv P) (hs : VtSl w sv L) (ht : Tab w) :
    Calls Tryd.prog 11 #[setV pv, .agg (hdC h).toArray, sv] w fun e w' => e = .returned (.bool (certB P h L)) ∧ Only NoneOf w w' := by
  have hb : ∀ W, Only NoneOf w W → Calls Tryd.prog 16 #[.agg #[pv, .int .i64 0, .slice none 0 0, .slice none 0 0, .int .i64 0, .int .i64 0], sv] W fun e w' => ∃ b, e = .returned (.map (some b)) ∧ (∀ W', Only NoneOf w' W' → (Instr.lookup 49 (.map (some b)) (.agg (hdC h).toArray) false).run Tryd.prog W' = .ok (.int .i64 (votesFor (offs P) L h : Int)) W') ∧ Only NoneOf W w' := fun W ho =>
    (ballots_any P hP hlen pv L hok hL sv W (hp.only ho) (hs.only ho) (ht.none ho)).mono (by
      rintro e w' ⟨b, n, rfl, hn, hm, ho'⟩
      exact ⟨b, rfl, fun W' hW => cnt_look (hm.only hW (fun e => e)) (fun g hg => votesFor_out _ _ g hg) ok, ho'⟩)
  have hq : ∀ W, Only NoneOf w W → Calls Tryd.prog 17 #[.agg #[pv, .int .i64 0, .slice none 0 0, .slice none 0 0, .int .i64 0, .int .i64 0]] W fun e w' => ∃ A cap, e = .returned (.slice A (offs P).length cap) ∧ Only NoneOf W w' := fun W ho =>
    (qofficers_any P hP hlen pv W (hp.only ho)).mono (by
      rintro e w' ⟨ov, rfl, ⟨A, cap, rfl, _⟩, ho'⟩
      exact ⟨A, cap, rfl, ho'⟩)
  have hol : (offs P).length ≤ 1000 := Nat.le_trans (offs_len P) hlen
  have hvl := votesFor_le (offs P) L h
  have HC : Hid (certB P h L = decide (needI ((offs P).length : Int) ≤ (votesFor (offs P) L h : Int))) := Lib.hid (by
    unfold certB
    rw [needI_nat]
    simp)
  obtain ⟨nv, env⟩ : ∃ nv, nv = votesFor (offs P) L h := ⟨_, rfl⟩
  obtain ⟨no, eno⟩ : ∃ no, no = (offs P).length := ⟨_, rfl⟩
  rw [← env] at hb hvl HC
  rw [← eno] at hq hol hvl HC
  have hnd : ∀ W, Calls Tryd.prog 5 #[.int .i64 (no : Int)] W fun e w' => e = .returned (.int .i64 (needI (no : Int))) ∧ w' = W := fun W => qneed_any (no : Int) ⟨by omega, by omega⟩ W
  obtain ⟨ni, eni⟩ : ∃ ni, ni = needI (no : Int) := ⟨_, rfl⟩
  rw [← eni] at hnd HC
  obtain ⟨B, eB⟩ : ∃ B, B = w.heap.size := ⟨_, rfl⟩
  obtain ⟨X, eX⟩ : ∃ X, X = (w.alloc (.cells #[pv, .int .i64 0, .slice none 0 0, .slice none 0 0, .int .i64 0, .int .i64 0] 30)).alloc (.cells (hdC h).toArray 35) := ⟨_, rfl⟩
  have hS0 : CeS w B pv h X := by
    have h2 := Blk.new (w.alloc (.cells #[pv, .int .i64 0, .slice none 0 0, .slice none 0 0, .int .i64 0, .int .i64 0] 30)) tHd (hdC h).toArray
    rw [World.size_alloc, ← eB] at h2
    exact ⟨by rw [eX, eB]; exact (Blk.new w _ _).alloc _, by rw [eX]; exact h2, by rw [eX]; exact ((Only.refl _ _).alloc _).alloc _⟩
  have hS : CeS w B pv h X.drew := ⟨hS0.s.drew, Blk.drew hS0.h, hS0.only.drew⟩
  have c0 : ∀ W, CeS w B pv h W → W.cell? ⟨B, 0, none⟩ = some pv := fun W hW => hW.s.cell 0
  have c1 : ∀ W, CeS w B pv h W → W.cell? ⟨B, 1, none⟩ = some (.int .i64 0) := fun W hW => hW.s.cell 1
  have c2 : ∀ W, CeS w B pv h W → W.cell? ⟨B, 2, none⟩ = some (.slice none 0 0) := fun W hW => hW.s.cell 2
  have c3 : ∀ W, CeS w B pv h W → W.cell? ⟨B, 3, none⟩ = some (.slice none 0 0) := fun W hW => hW.s.cell 3
  have c4 : ∀ W, CeS w B pv h W → W.cell? ⟨B, 4, none⟩ = some (.int .i64 0) := fun W hW => hW.s.cell 4
  have c5 : ∀ W, CeS w B pv h W → W.cell? ⟨B, 5, none⟩ = some (.int .i64 0) := fun W hW => hW.s.cell 5
  have ch : ∀ W, CeS w B pv h W → (hdLoad (.pointer (some ⟨B + 1, 0, none⟩))).run Tryd.prog W = .ok (.agg (hdC h).toArray) W := fun W hW => hd_load (blk_range hW.h) ok.root
  have HBL := Lib.hid hb
  have HOF := Lib.hid hq
  have HND := Lib.hid hnd
  have EX := Lib.hid eX
  have EB := Lib.hid eB
  have HOUT : Hid (∀ W, CeS w B pv h W → Only NoneOf w W) := Lib.hid (fun W hW => hW.only)
  have HKEEP : Hid (∀ W W', CeS w B pv h W → Only NoneOf W W' → CeS w B pv h W') := Lib.hid (fun W W' hW ho => ⟨hW.s.only ho (fun e => e), Blk.only hW.h ho (fun e => e), hW.only.trans ho⟩)
  clear hb hq hnd hol hvl env eno eni eB eX hS0 hp hs ht hok ok hP hlen hL
  unfold setV
  go_enter Tryd.func11, Tryd.ntmps11
  go_wp2_with fail
  rw [← EX.out, ← EB.out]
  clear EX EB
  go_region_held3 (fun w' => CeS w B pv h w') (first | assumption)
    (first
      | (go_at_call 16; refine (HBL.out _ (HOUT.out _ (by assumption))).mono ?_; rintro e1 w1 ⟨b1, rfl, hlk1, ho1⟩; have hS1 := HKEEP.out _ _ (by assumption) ho1; have hrf1 : Only NoneOf w1 w1 := Only.refl _ _; clear ho1)
      | (go_at_call 17; refine (HOF.out _ (HOUT.out _ (by assumption))).mono ?_; rintro e2 w2 ⟨A2, cap2, rfl, ho2⟩; have hS2 := HKEEP.out _ _ (by assumption) ho2)
      | (go_at_call 5; refine (HND.out _).mono ?_; rintro e3 w3 ⟨rfl, rfl⟩))
  all_goals
    go_wp2_with fail
    go_ret
    exact ⟨ret_bool HC.out.symm, HOUT.out _ (by assumption)⟩
end Go.Proofs.YtoehfainhmfghaaDoor
