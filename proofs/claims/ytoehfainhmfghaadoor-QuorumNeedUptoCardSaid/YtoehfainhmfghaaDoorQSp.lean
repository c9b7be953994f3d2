/- What is proved here: plain facts of the quorum laws' check: signed votes count, three of four officers certify. No conditions. -/
import Derived.Test.YtoehfainhmfghaaDoorQSt
import Derived.Test.YtoehfainhmfghaaDoorQTx
namespace Go.Proofs.YtoehfainhmfghaaDoor
theorem cnts_voted (p : Pers) (who sec : Int) (h : Hd) (hw : who = p.id) (hk : p.pub = (pub sec : Int)) : cnts p (voteOf who sec h) = true := by
  unfold cnts voteOf
  simp only [hw, hk, beq_self_eq_true, Bool.true_and]
  exact goodB_true.2 (good_signed sec (hdText h) (nonce (expo sec) (hdText h)))
theorem cnts_other (p : Pers) (v : Vt) (h : v.who ≠ p.id) : cnts p v = false := by
  unfold cnts
  rw [beq_eq_false_iff_ne.2 h]; rfl
noncomputable def vAt (h : Hd) (k : Nat) : Vt := voteOf (k : Int) (secI k) h
noncomputable def vts (h : Hd) (m : Nat) : List Vt := (List.range m).map (fun j => vAt h (j + 1))
theorem vts_snoc (h : Hd) (m : Nat) : vts h (m + 1) = vts h m ++ [vAt h (m + 1)] := by simp [vts, List.range_succ]
theorem vts_len' (h : Hd) (m : Nat) : (vts h m).length = m := by simp [vts]
theorem gp_in (n : Nat) : In (gp n : Int) := by
  have h1 : gp n < P0 := pw_lt 4 n
  have h2 := P0_val
  constructor <;> omega
theorem sig_in (x : Int) (text : List UInt8) (n : Nat) : In (sigS x text n : Int) := by
  have h1 := sigS_lt x text n
  have h2 := Q0_val
  constructor <;> omega
theorem vote_ok {who sec : Int} {h : Hd} (iw : In who) (ok : h.Ok) : (voteOf who sec h).Ok := ⟨iw, ok, gp_in _, sig_in _ _ _⟩
theorem hit_self (h : Hd) (p : Pers) (v : Vt) (hv : v.head = h) : (eqHd v.head h && cnts p v) = cnts p v := by rw [eqHd_true.2 hv, Bool.true_and]
theorem offs_set4 : offs (setB 4) = [offAt 1, offAt 2, offAt 3, offAt 4] := by
  simp [offs, offGo, setB, clerk, offAt, List.range_succ]
theorem cnts_at (h : Hd) (k j : Nat) : cnts (offAt k) (vAt h j) = decide (j = k) := by
  by_cases e : j = k
  · subst e
    rw [decide_eq_true rfl]
    exact cnts_voted _ _ _ _ rfl rfl
  · rw [decide_eq_false e]
    exact cnts_other _ _ (fun h => e (by have h2 : (j : Int) = (k : Int) := h; omega))
theorem cert_three (h : Hd) : certB (setB 4) h (vts h 3) = true := by
  unfold certB votesFor
  rw [offs_set4]
  have hd : ∀ j, eqHd (vAt h j).head h = true := fun j => eqHd_true.2 rfl
  simp [vts, List.range_succ, hd, cnts_at, need]
theorem cert_two (h : Hd) : certB (setB 4) h ((vts h 3).take 2) = false := by
  unfold certB votesFor
  rw [offs_set4]
  have hd : ∀ j, eqHd (vAt h j).head h = true := fun j => eqHd_true.2 rfl
  simp [vts, List.range_succ, hd, cnts_at, need]
theorem cert_again (h : Hd) : certB (setB 4) h (List.replicate 3 (vAt h 1)) = false := by
  unfold certB votesFor
  rw [offs_set4]
  have hd : ∀ j, eqHd (vAt h j).head h = true := fun j => eqHd_true.2 rfl
  simp [List.replicate, hd, cnts_at, need]
end Go.Proofs.YtoehfainhmfghaaDoor
