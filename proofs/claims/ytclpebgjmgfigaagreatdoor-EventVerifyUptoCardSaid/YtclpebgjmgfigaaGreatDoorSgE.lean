/- What is proved here: events are signed, by the program and by the reference. Conditions: names and texts are short; the table of powers of ten reads as its initialiser lays it. -/
import Derived.Test.YtclpebgjmgfigaaGreatDoorEvS
import Derived.Test.YtclpebgjmgfigaaGreatDoorBent
import Derived.Test.YtclpebgjmgfigaaGreatDoorM7
namespace Go.Proofs.YtclpebgjmgfigaaGreatDoor
open Go.RowKit Go.Shelf
attribute [local go_sem ↓ high] evStore_eq evLoad_eq
/-- A signed event. -/
noncomputable def signE (x : Int) (e : Ev) : Ev := { e with r := (gp (nonce (expo x) (evText e)) : Int), s := (sigS x (evText e) (nonce (expo x) (evText e)) : Int) }
theorem signE_text (x : Int) (e : Ev) : evText (signE x e) = evText e := rfl
theorem signE_ok {e : Ev} (h : e.Ok) (x : Int) : (signE x e).Ok := by
  have h1 := pw_lt 4 (nonce (expo x) (evText e))
  have h2 := sigS_lt x (evText e) (nonce (expo x) (evText e))
  rw [P0_val] at h1
  rw [Q0_val] at h2
  refine ⟨h.seq, h.kind, h.who, h.time, h.bidder, h.lot, h.n, h.other, h.sx, h.sy, h.prev, ⟨?_, ?_⟩, ⟨?_, ?_⟩⟩
  · show _ ≤ (gp _ : Int); omega
  · show (gp _ : Int) ≤ _; unfold gp; omega
  · show _ ≤ (sigS _ _ _ : Int); omega
  · show (sigS _ _ _ : Int) ≤ _; omega
theorem text_len {e : Ev} (he : e.Ok) (hn : e.name.size ≤ 4398046511104) (hx : e.text.size ≤ 4398046511104) : (evText e).length ≤ 17592186044416 := by
  have l1 := numsL_len e.nums he.nums_in
  have l2 := hexL_len e.prev
  have l3 := quoL_len e.name.data.toList (by rw [← size_list]; omega)
  have l4 := quoL_len e.text.data.toList (by rw [← size_list]; omega)
  rw [← size_list] at l3 l4
  rw [he.prev] at l2
  have l5 : e.nums.length = 10 := rfl
  unfold evText
  simp only [List.length_append, List.length_cons, List.length_nil]
  omega
set_option maxRecDepth 100000 in
set_option maxHeartbeats 4000000 in
theorem esign_any (x : Int) (e : Ev) (he : e.Ok) (hn : e.name.size ≤ 4398046511104) (hx : e.text.size ≤ 4398046511104) (w : World) (ht : Tab w) : Calls Tryz.prog 25 #[.int .i64 x, .agg (evC e).toArray] w fun e' w' => e' = .returned (.agg (evC (signE x e)).toArray) ∧ Only NoneOf w w' := by
  have hlen := text_len he hn hx
  have htx : ∀ W, Only NoneOf w W → Calls Tryz.prog 11 #[.agg (evC e).toArray] W (RetStr (evText e) W) := fun W ho => etext_any e he (by omega) (by omega) W (ht.none ho)
  have hsg : ∀ (t : ByteArray) W, t.data.toList = evText e → Calls Tryz.prog 48 #[.int .i64 x, .string t] W fun e' w' => e' = .returned (.agg #[.int .i64 (signE x e).r, .int .i64 (signE x e).s]) ∧ Only NoneOf W w' := fun t W h => by
    have h1 := ssign_any x t W (by rw [size_list, h]; exact hlen)
    rw [h] at h1
    exact h1
  obtain ⟨B, eB⟩ : ∃ B, B = w.heap.size := ⟨_, rfl⟩
  have hat : EvAt ((w.alloc (.cells (evC e).toArray tEv)).alloc (.cells (evC blank0).toArray tEv)) B e ∧ EvAt ((w.alloc (.cells (evC e).toArray tEv)).alloc (.cells (evC blank0).toArray tEv)) (B + 1) blank0 ∧ Only NoneOf w ((w.alloc (.cells (evC e).toArray tEv)).alloc (.cells (evC blank0).toArray tEv)) := by
    have h1 := Blk.new (w.alloc (.cells (evC e).toArray tEv)) tEv (evC blank0).toArray
    rw [World.size_alloc, ← eB] at h1
    exact ⟨by rw [eB]; exact (Blk.new w _ _).alloc _, h1, ((Only.refl _ _).alloc _).alloc _⟩
  obtain ⟨f, ef⟩ : ∃ f, f = signE x e := ⟨_, rfl⟩
  have hf : f.Ok := by rw [ef]; exact signE_ok he x
  have hfe : ({ ({ e with r := f.r } : Ev) with s := f.s } : Ev) = f := by rw [ef]; rfl
  rw [← ef] at hsg ⊢
  have hwB : w.heap.size ≤ B := by omega
  have HAT := Lib.hid hat
  have HTX := Lib.hid htx
  have HSG := Lib.hid hsg
  have HF := Lib.hid hf
  have HFE := Lib.hid hfe
  have HP := Lib.hid he.prev
  have HEB := Lib.hid eB
  clear hat htx hsg he hn hx hlen hf hfe ef eB ht
  go_enter Tryz.func25, Tryz.ntmps25
  go_upto_region 1 with (fail)
  rw [← HEB.out]
  refine wp_gen (fun Z => EvAt Z B e ∧ EvAt Z (B + 1) blank0 ∧ Only NoneOf w Z) HAT.out ?_
  rintro Z ⟨hE, hZ, hO⟩
  have hl := ev_load hE HP.out
  have HE := Lib.hid hE
  have HZ := Lib.hid hZ
  have HO := Lib.hid hO
  clear hE hZ hO HAT
  go_wp2_with fail
  refine (HTX.out Z HO.out).mono ?_
  rintro e1 w1 ⟨t, rfl, ht, ho1⟩
  have HS1 := Lib.hid (fun W => HSG.out t W ht)
  have HO1 := Lib.hid ho1
  clear hl ho1 ht HTX HSG
  go_wp2_with fail
  refine (HS1.out w1).mono ?_
  rintro e2 w2 ⟨rfl, ho2⟩
  have hE2 := (HE.out.only HO1.out (fun e => e)).only ho2 (fun e => e)
  have hZ2 := (HZ.out.only HO1.out (fun e => e)).only ho2 (fun e => e)
  have hO2 := (HO.out.trans HO1.out).trans ho2
  have c44 := (ev_sig hE2 HP.out).1
  have c45 := (ev_sig hE2 HP.out).2
  have f44 := Blk.frozen hE2 44
  have hE3 : EvAt (w2.setCell ⟨B, 44, none⟩ (.int .i64 f.r)) B { e with r := f.r } := ev_set hE2 (set_sig e HP.out _).1
  have f45 := Blk.frozen hE3 45
  have hE4 : EvAt ((w2.setCell ⟨B, 44, none⟩ (.int .i64 f.r)).setCell ⟨B, 45, none⟩ (.int .i64 f.s)) B f := by
    have h1 := ev_set hE3 (set_sig { e with r := f.r } HP.out f.s).2
    rw [HFE.out] at h1
    exact h1
  have hZ4 := Blk.far (p := ⟨B, 45, none⟩) (Blk.far (p := ⟨B, 44, none⟩) hZ2 (show B + 1 ≠ B by omega) (.int .i64 f.r)) (show B + 1 ≠ B by omega) (.int .i64 f.s)
  have hO4 := (hO2.setCell (p := ⟨B, 44, none⟩) (.inr hwB) (.int .i64 f.r)).setCell (p := ⟨B, 45, none⟩) (.inr hwB) (.int .i64 f.s)
  have HE4 := Lib.hid hE4
  have HZ4 := Lib.hid hZ4
  have HO4 := Lib.hid hO4
  clear hE2 hZ2 hO2 hE3 hE4 hZ4 hO4 HE HZ HO HO1 ho2 HFE
  go_upto_region 2 with (fail)
  refine wp_gen (fun Z => EvAt Z B f ∧ EvAt Z (B + 1) blank0 ∧ Only NoneOf w Z) ⟨HE4.out, HZ4.out, HO4.out⟩ ?_
  rintro Z4 ⟨hE5, hZ5, hO5⟩
  have hl5 := ev_load hE5 HF.out.prev
  have hst := ev_store (cs := evC blank0) hZ5 rfl (e := f) HF.out.prev
  have HZ6 := Lib.hid (setCells_own hZ5 (ds := evC f) (by rw [evC_len HF.out.prev]; rfl))
  have HO6 := Lib.hid (only_setCells hO5 (B + 1) 0 (.inr (by omega)) (evC f))
  have hinf : (Tryz.prog.info? 29).map (·.size) = some (evC f).toArray.size := by rw [List.size_toArray, evC_len HF.out.prev]; kernel_rfl
  have HINF := Lib.hid hinf
  clear c44 c45 f44 f45 hE5 hZ5 hO5 HE4 HZ4 HO4 hinf
  go_wp2_with fail
  refine bodyPost_ret (v := .agg (evC f).toArray) (results_blk rfl rfl HZ6.out Tryz.underlying29 rfl HINF.out) rfl ⟨rfl, HO6.out⟩
set_option maxRecDepth 100000 in
set_option maxHeartbeats 4000000 in
theorem rsignE_any (x : Int) (e : Ev) (he : e.Ok) (hn : e.name.size ≤ 4398046511104) (hx : e.text.size ≤ 4398046511104) (w : World) : Calls Tryz.prog 27 #[.int .i64 x, .agg (evC e).toArray] w fun e' w' => e' = .returned (.agg (evC (signE x e)).toArray) ∧ Only NoneOf w w' := by
  have hlen := text_len he hn hx
  have htx : ∀ W, Only NoneOf w W → Calls Tryz.prog 12 #[.agg (evC e).toArray] W (RetStr (evText e) W) := fun W ho => rtext_any e he (by omega) (by omega) W
  have hsg : ∀ (t : ByteArray) W, t.data.toList = evText e → Calls Tryz.prog 52 #[.int .i64 x, .string t] W fun e' w' => e' = .returned (.agg #[.int .i64 (signE x e).r, .int .i64 (signE x e).s]) ∧ Only NoneOf W w' := fun t W h => by
    have h1 := rsign_any x t W (by rw [size_list, h]; exact hlen)
    rw [h] at h1
    exact h1
  obtain ⟨B, eB⟩ : ∃ B, B = w.heap.size := ⟨_, rfl⟩
  have hat : EvAt ((w.alloc (.cells (evC e).toArray tEv)).alloc (.cells (evC blank0).toArray tEv)) B e ∧ EvAt ((w.alloc (.cells (evC e).toArray tEv)).alloc (.cells (evC blank0).toArray tEv)) (B + 1) blank0 ∧ Only NoneOf w ((w.alloc (.cells (evC e).toArray tEv)).alloc (.cells (evC blank0).toArray tEv)) := by
    have h1 := Blk.new (w.alloc (.cells (evC e).toArray tEv)) tEv (evC blank0).toArray
    rw [World.size_alloc, ← eB] at h1
    exact ⟨by rw [eB]; exact (Blk.new w _ _).alloc _, h1, ((Only.refl _ _).alloc _).alloc _⟩
  obtain ⟨f, ef⟩ : ∃ f, f = signE x e := ⟨_, rfl⟩
  have hf : f.Ok := by rw [ef]; exact signE_ok he x
  have hfe : ({ ({ e with r := f.r } : Ev) with s := f.s } : Ev) = f := by rw [ef]; rfl
  rw [← ef] at hsg ⊢
  have hwB : w.heap.size ≤ B := by omega
  have HAT := Lib.hid hat
  have HTX := Lib.hid htx
  have HSG := Lib.hid hsg
  have HF := Lib.hid hf
  have HFE := Lib.hid hfe
  have HP := Lib.hid he.prev
  have HEB := Lib.hid eB
  clear hat htx hsg he hn hx hlen hf hfe ef eB
  go_enter Tryz.func27, Tryz.ntmps27
  go_upto_region 1 with (fail)
  rw [← HEB.out]
  refine wp_gen (fun Z => EvAt Z B e ∧ EvAt Z (B + 1) blank0 ∧ Only NoneOf w Z) HAT.out ?_
  rintro Z ⟨hE, hZ, hO⟩
  have hl := ev_load hE HP.out
  have HE := Lib.hid hE
  have HZ := Lib.hid hZ
  have HO := Lib.hid hO
  clear hE hZ hO HAT
  go_wp2_with fail
  refine (HTX.out Z HO.out).mono ?_
  rintro e1 w1 ⟨t, rfl, ht, ho1⟩
  have HS1 := Lib.hid (fun W => HSG.out t W ht)
  have HO1 := Lib.hid ho1
  clear hl ho1 ht HTX HSG
  go_wp2_with fail
  refine (HS1.out w1).mono ?_
  rintro e2 w2 ⟨rfl, ho2⟩
  have hE2 := (HE.out.only HO1.out (fun e => e)).only ho2 (fun e => e)
  have hZ2 := (HZ.out.only HO1.out (fun e => e)).only ho2 (fun e => e)
  have hO2 := (HO.out.trans HO1.out).trans ho2
  have c44 := (ev_sig hE2 HP.out).1
  have c45 := (ev_sig hE2 HP.out).2
  have f44 := Blk.frozen hE2 44
  have hE3 : EvAt (w2.setCell ⟨B, 44, none⟩ (.int .i64 f.r)) B { e with r := f.r } := ev_set hE2 (set_sig e HP.out _).1
  have f45 := Blk.frozen hE3 45
  have hE4 : EvAt ((w2.setCell ⟨B, 44, none⟩ (.int .i64 f.r)).setCell ⟨B, 45, none⟩ (.int .i64 f.s)) B f := by
    have h1 := ev_set hE3 (set_sig { e with r := f.r } HP.out f.s).2
    rw [HFE.out] at h1
    exact h1
  have hZ4 := Blk.far (p := ⟨B, 45, none⟩) (Blk.far (p := ⟨B, 44, none⟩) hZ2 (show B + 1 ≠ B by omega) (.int .i64 f.r)) (show B + 1 ≠ B by omega) (.int .i64 f.s)
  have hO4 := (hO2.setCell (p := ⟨B, 44, none⟩) (.inr hwB) (.int .i64 f.r)).setCell (p := ⟨B, 45, none⟩) (.inr hwB) (.int .i64 f.s)
  have HE4 := Lib.hid hE4
  have HZ4 := Lib.hid hZ4
  have HO4 := Lib.hid hO4
  clear hE2 hZ2 hO2 hE3 hE4 hZ4 hO4 HE HZ HO HO1 ho2 HFE
  go_upto_region 2 with (fail)
  refine wp_gen (fun Z => EvAt Z B f ∧ EvAt Z (B + 1) blank0 ∧ Only NoneOf w Z) ⟨HE4.out, HZ4.out, HO4.out⟩ ?_
  rintro Z4 ⟨hE5, hZ5, hO5⟩
  have hl5 := ev_load hE5 HF.out.prev
  have hst := ev_store (cs := evC blank0) hZ5 rfl (e := f) HF.out.prev
  have HZ6 := Lib.hid (setCells_own hZ5 (ds := evC f) (by rw [evC_len HF.out.prev]; rfl))
  have HO6 := Lib.hid (only_setCells hO5 (B + 1) 0 (.inr (by omega)) (evC f))
  have hinf : (Tryz.prog.info? 29).map (·.size) = some (evC f).toArray.size := by rw [List.size_toArray, evC_len HF.out.prev]; kernel_rfl
  have HINF := Lib.hid hinf
  clear c44 c45 f44 f45 hE5 hZ5 hO5 HE4 HZ4 HO4 hinf
  go_wp2_with fail
  refine bodyPost_ret (v := .agg (evC f).toArray) (results_blk rfl rfl HZ6.out Tryz.underlying29 rfl HINF.out) rfl ⟨rfl, HO6.out⟩
end Go.Proofs.YtclpebgjmgfigaaGreatDoor
