/- What is proved here: codes of events decoded by the program: its panics are recovered. Conditions: the text is short; the library's variables hold what their initialisers lay. -/
import Derived.Test.YtclpebgjmgfigaaGreatDoorEcR
namespace Go.Proofs.YtclpebgjmgfigaaGreatDoor
open Go.RowKit Go.Shelf
attribute [local go_sem ↓ high] evStore_eq evLoad_eq
set_option maxRecDepth 100000 in
/-- The deferred function does nothing where nothing panicked. -/
theorem catch_none (b c : Nat) (w : World) :
    CallsD Tryz.prog 39 #[.pointer (some ⟨b, 0, none⟩), .pointer (some ⟨c, 0, none⟩)] .returning w fun e u' w' =>
      e = .returned (.tuple #[]) ∧ u' = .returning ∧ w' = w := by
  refine callsD_of_wpS Tryz.func39 rfl fun c₀ cs hu => ?_
  apply wpS_seq
  apply wpS_region
  simp [wpOpsS, go_sem, recoverD, hu, Tryz.ntmps39, Exit.thenS]
  apply wpS_seq
  apply wpS_region
  simp [wpOpsS, go_sem, Exit.thenS]
  refine wpS_cond (t := false) (by simp [Act.eval]) ?_
  simp only [Bool.false_eq_true, if_false]
  refine wpS_of_wp (wp_skip ?_)
  refine ⟨rfl, .returning, by rw [← hu], .tuple #[], ?_, rfl, rfl, rfl⟩
  simp [results, Tryz.results39]
set_option maxRecDepth 100000 in
/-- The deferred function marks the panic and lays the results. -/
theorem catch_any (b c : Nat) (w : World) {e0 : Ev} (h0 : e0.prev.length = 32) (hb : EvAt w b e0) (hc : Blk w c 36 #[.int .i64 0]) (hne : b ≠ c) :
    CallsD Tryz.prog 39 #[.pointer (some ⟨b, 0, none⟩), .pointer (some ⟨c, 0, none⟩)] (.panicking wrongP) w fun e u' w' =>
      e = .returned (.tuple #[]) ∧ u' = .panicking [{ v := .iface 74 (.agg #[]), recovered := true }] ∧ w' = ((w.alloc (.cells #[] 74)).setCells b 0 (evC blank0)).setCell ⟨c, 0, none⟩ (.int .i64 11) := by
  have hst : (evStore (.pointer (some ⟨b, 0, none⟩)) (.agg #[.int .i64 0, .int .i64 0, .int .i64 0, .int .i64 0, .int .i64 0, .int .i64 0, .int .i64 0, .int .i64 0, .string ⟨#[]⟩, .string ⟨#[]⟩, .int .i64 0, .int .i64 0, .int .u8 0, .int .u8 0, .int .u8 0, .int .u8 0, .int .u8 0, .int .u8 0, .int .u8 0, .int .u8 0, .int .u8 0, .int .u8 0, .int .u8 0, .int .u8 0, .int .u8 0, .int .u8 0, .int .u8 0, .int .u8 0, .int .u8 0, .int .u8 0, .int .u8 0, .int .u8 0, .int .u8 0, .int .u8 0, .int .u8 0, .int .u8 0, .int .u8 0, .int .u8 0, .int .u8 0, .int .u8 0, .int .u8 0, .int .u8 0, .int .u8 0, .int .u8 0, .int .i64 0, .int .i64 0])).run Tryz.prog (w.alloc (.cells #[] 74)) = .ok () ((w.alloc (.cells #[] 74)).setCells b 0 (evC blank0)) := ev_store (e := blank0) (Blk.alloc hb _) (evC_len h0) rfl
  dsimp only at hst
  have hc1 := (hc.alloc (.cells #[] 74)).farCells (b := b) (fun e => hne e.symm) (evC blank0) 0
  have c0 := hc1.cell 0
  have f0 := hc1.frozen 0
  have hta : ∀ W, (Instr.typeAssert (.iface 74 (.agg #[])) 20 74 true).run Tryz.prog W = .ok (.tuple #[.agg #[], .bool true]) W := fun W => by kernel_rfl
  refine callsD_of_wpS Tryz.func39 rfl fun c₀ cs hu => ?_
  apply wpS_seq
  apply wpS_region
  simp [wpOpsS, go_sem, recoverD, hu, Tryz.ntmps39, Exit.thenS]
  have HST := Lib.hid hst
  have HC0 := Lib.hid (And.intro c0 f0)
  clear hst c0 f0 hb hc hc1
  apply wpS_seq
  apply wpS_region
  simp [wpOpsS, go_sem, Exit.thenS]
  refine wpS_cond (t := true) (by simp [Act.eval]) ?_
  simp only [if_true]
  apply wpS_seq
  apply wpS_seq
  apply wpS_region
  simp [wpOpsS, go_sem, Exit.thenS, hta]
  apply wpS_seq
  apply wpS_region
  simp [wpOpsS, go_sem, Exit.thenS]
  refine wpS_cond (t := false) (by simp [Act.eval, Array.replicate]) ?_
  simp only [Bool.false_eq_true, if_false]
  refine wpS_of_wp (wp_skip ?_)
  simp only [Exit.thenS]
  apply wpS_region
  have hst := HST.out
  obtain ⟨c0, f0⟩ := HC0.out
  simp [wpOpsS, go_sem, hst, c0, f0, bodyPostS, results, Tryz.results39]
/-- What is left to do behind a panic. -/
theorem dec_fail {s : ByteArray} {w w1 : World} {b : Nat} {tmps : Array Value} {e0 : Ev} (h2 : tmps.getD 2 undef = .pointer (some ⟨b, 0, none⟩)) (h3 : tmps.getD 3 undef = .pointer (some ⟨b + 1, 0, none⟩)) (h0 : e0.prev.length = 32) (hb1 : EvAt w1 b e0) (hc1 : Blk w1 (b + 1) 36 #[.int .i64 0]) (ho1 : Only NoneOf w w1) (hb0 : w.heap.size ≤ b) (hno : ∀ f, ¬ Code s.data.toList f) :
    Leaves Tryz.prog Tryz.f17 tmps (DecE s w) [{ target := .fn (.func 39) #[.pointer (some ⟨b, 0, none⟩), .pointer (some ⟨b + 1, 0, none⟩)], args := #[] }] (.panicking wrongP) w1 := by
  have hne : b ≠ b + 1 := by omega
  have hbw : EvAt (((w1.alloc (.cells #[] 74)).setCells b 0 (evC blank0)).setCell ⟨b + 1, 0, none⟩ (.int .i64 11)) b blank0 := (setCells_own (Blk.alloc hb1 _) (by rw [evC_len h0]; rfl)).far (p := ⟨b + 1, 0, none⟩) hne _
  have hcw : Blk (((w1.alloc (.cells #[] 74)).setCells b 0 (evC blank0)).setCell ⟨b + 1, 0, none⟩ (.int .i64 11)) (b + 1) 36 #[.int .i64 11] := ((hc1.alloc _).farCells (b := b) (fun e => hne e.symm) (evC blank0) 0).set_ 0 (.int .i64 11)
  have hl1 := run_loadVar_mid (P := Tryz.prog) _ b 0 29 (evC blank0) _ (ev_all hbw) Tryz.underlying29 rfl (by kernel_rfl)
  have c1 := hcw.cell 0
  have hoW : Only NoneOf w (((w1.alloc (.cells #[] 74)).setCells b 0 (evC blank0)).setCell ⟨b + 1, 0, none⟩ (.int .i64 11)) := (only_setCells (ho1.alloc _) _ _ (.inr hb0) _).setCell (p := ⟨b + 1, 0, none⟩) (.inr (by show _ ≤ b + 1; omega)) _
  refine leaves_cons (f := 39) (args := #[.pointer (some ⟨b, 0, none⟩), .pointer (some ⟨b + 1, 0, none⟩)]) (by simp) (by simp [go_sem]) ?_
  refine (catch_any b (b + 1) w1 h0 hb1 hc1 hne).mono ?_
  rintro e u' w'' ⟨rfl, rfl, rfl⟩
  simp only [List.getElem?_toArray, List.getElem?_cons_zero] at c1
  have hl2 : (loadVar 36 ⟨b + 1, 0, none⟩).run Tryz.prog (((w1.alloc (.cells #[] 74)).setCells b 0 (evC blank0)).setCell ⟨b + 1, 0, none⟩ (.int .i64 11)) = .ok (.int .i64 11) (((w1.alloc (.cells #[] 74)).setCells b 0 (evC blank0)).setCell ⟨b + 1, 0, none⟩ (.int .i64 11)) := by
    simp [go_sem, c1]
  exact ⟨_, results_two rfl _ _ _ h2 h3 hl1 hl2, blank0, 11, rfl, .inr ⟨rfl, rfl, fun f hf hc => hno f ⟨hf, hc⟩⟩, blank0_ok, Nat.zero_le _, Nat.zero_le _, hoW⟩
/-- What is left to do at the return. -/
theorem dec_done {s : ByteArray} {w w1 : World} {b : Nat} {tmps : Array Value} {u : Ev} (h2 : tmps.getD 2 undef = .pointer (some ⟨b, 0, none⟩)) (h3 : tmps.getD 3 undef = .pointer (some ⟨b + 1, 0, none⟩)) (h0 : u.Ok) (hb1 : EvAt w1 b u) (hc1 : Blk w1 (b + 1) 36 #[.int .i64 0]) (ho1 : Only NoneOf w w1) (hs : s.data.toList = evCode u) (hn : u.name.size ≤ s.size) (hx : u.text.size ≤ s.size) :
    Leaves Tryz.prog Tryz.f17 tmps (DecE s w) [{ target := .fn (.func 39) #[.pointer (some ⟨b, 0, none⟩), .pointer (some ⟨b + 1, 0, none⟩)], args := #[] }] .returning w1 := by
  have hl1 := run_loadVar_mid (P := Tryz.prog) _ b 0 29 (evC u) _ (ev_all hb1) Tryz.underlying29 rfl (by rw [evC_len h0.prev]; kernel_rfl)
  have c1 := hc1.cell 0
  refine leaves_cons (f := 39) (args := #[.pointer (some ⟨b, 0, none⟩), .pointer (some ⟨b + 1, 0, none⟩)]) (by simp) (by simp [go_sem]) ?_
  refine (catch_none b (b + 1) w1).mono ?_
  rintro e u' w'' ⟨rfl, rfl, rfl⟩
  simp only [List.getElem?_toArray, List.getElem?_cons_zero] at c1
  have hl2 : (loadVar 36 ⟨b + 1, 0, none⟩).run Tryz.prog w'' = .ok (.int .i64 0) w'' := by
    simp [go_sem, c1]
  exact ⟨_, results_two rfl _ _ _ h2 h3 hl1 hl2, u, 0, rfl, .inl ⟨rfl, h0, hs⟩, h0, hn, hx, ho1⟩
set_option maxRecDepth 100000 in
set_option maxHeartbeats 4000000 in
theorem pdecode23_any (s : ByteArray) (hs : s.size ≤ 40000000) (w : World) (he : EnvA w) : Calls Tryz.prog 17 #[.string s] w (DecE s w) := by
  have hmf : ∀ (fn : Fn) (first cap : Array Value) (w : World), (Instr.makeFunc fn first cap).run Tryz.prog w = .ok (.func fn first cap) w := fun _ _ _ _ => rfl
  have hY : EvAt ((w.alloc (.cells (evC blank0).toArray tEv)).alloc (.cells #[.int .i64 0] 36)) w.heap.size blank0 ∧ Blk ((w.alloc (.cells (evC blank0).toArray tEv)).alloc (.cells #[.int .i64 0] 36)) (w.heap.size + 1) 36 #[.int .i64 0] ∧ Only NoneOf w ((w.alloc (.cells (evC blank0).toArray tEv)).alloc (.cells #[.int .i64 0] 36)) := by
    have h2 := Blk.new (w.alloc (.cells (evC blank0).toArray tEv)) 36 #[.int .i64 0]
    rw [World.size_alloc] at h2
    exact ⟨(Blk.new w _ _).alloc _, h2, ((Only.refl _ _).alloc _).alloc _⟩
  obtain ⟨b, eb⟩ : ∃ b, b = w.heap.size := ⟨_, rfl⟩
  have HY := Lib.hid hY
  have HE := Lib.hid he
  have EB := Lib.hid eb
  clear hY he eb
  go_enter_defers Tryz.func17, Tryz.ntmps17
  go_upto_region 1 with (fail)
  refine wp_gen (fun Y => EvAt Y w.heap.size blank0 ∧ Blk Y (w.heap.size + 1) 36 #[.int .i64 0] ∧ Only NoneOf w Y) HY.out ?_
  rintro Y ⟨hb, hc, ho⟩
  rw [← EB.out] at hb hc ⊢
  have hb0 : w.heap.size ≤ b := Nat.le_of_eq EB.out.symm
  clear HY EB
  have HB := Lib.hid hb
  have HC := Lib.hid hc
  have HO := Lib.hid ho
  clear hb hc ho
  go_wp2_with fail
  refine (dcode_any s hs Y (HE.out.none HO.out)).mono ?_
  rintro e w1 (⟨rfl, ho1, hno⟩ | ⟨u, rfl, hu, hun, hux, ho1, huf⟩)
  · have hb1 := Blk.only HB.out ho1 (fun e => e)
    have hc1 := HC.out.only ho1 (fun e => e)
    go_wp2_with fail
    exact dec_fail rfl rfl rfl hb1 hc1 (HO.out.trans ho1) hb0 hno
  have hb1 := Blk.only HB.out ho1 (fun e => e)
  have hc1 := HC.out.only ho1 (fun e => e)
  obtain ⟨hst, hb2, ho2⟩ := ev_fill hb1 (HO.out.trans ho1) hb0 rfl (f := u) hu.prev
  have HB2 := Lib.hid hb2
  have HC2 := Lib.hid (hc1.farCells (b := b) (by omega) (evC u) 0)
  have HO2 := Lib.hid ho2
  have HU := Lib.hid hu
  have HUN := Lib.hid hun
  have HUX := Lib.hid hux
  have HUF := Lib.hid huf
  clear hb1 hc1 ho1 hb2 ho2 hu hun hux huf
  go_upto_region 3 with (fail)
  refine wp_gen (fun Z => EvAt Z b u ∧ Blk Z (b + 1) 36 #[.int .i64 0] ∧ Only NoneOf w Z) ⟨HB2.out, HC2.out, HO2.out⟩ ?_
  rintro Z ⟨hb, hc, ho⟩
  clear hst HB2 HC2 HO2 HB HC HO
  have HB := Lib.hid hb
  have HC := Lib.hid hc
  have HO := Lib.hid ho
  have hl := ev_load hb HU.out.prev
  clear hb hc ho
  go_wp2_with fail
  refine (eencode_any u HU.out (by have := HUN.out; omega) (by have := HUX.out; omega) Z (HE.out.none HO.out).tab).mono ?_
  rintro e w3 ⟨t, rfl, ht, ho3⟩
  have HT := Lib.hid ht
  have hb3 := Blk.only HB.out ho3 (fun e => e)
  have hc3 := HC.out.only ho3 (fun e => e)
  have HB3 := Lib.hid hb3
  have HC3 := Lib.hid hc3
  have HO3 := Lib.hid (HO.out.trans ho3)
  clear ht ho3 hl hb3 hc3
  by_cases heq : t.data.toList = s.data.toList
  · have hq : (t.toList == s.toList) = true := by
      rw [Lib.toList_data, Lib.toList_data]; exact beq_iff_eq.2 heq
    have HQ := Lib.hid heq
    clear heq
    go_wp2_with fail
    refine (need_true _).mono ?_
    rintro e wq ⟨rfl, hwq⟩
    subst hwq
    have hl := ev_load HB3.out HU.out.prev
    obtain ⟨hst, hb4, ho4⟩ := ev_fill HB3.out HO3.out hb0 HU.out.prev (f := u) HU.out.prev
    have hc4 := HC3.out.farCells (b := b) (by omega) (evC u) 0
    have c0 := hc4.cell 0
    have f0 := hc4.frozen 0
    have HB4 := Lib.hid (Blk.far (p := ⟨b + 1, 0, none⟩) hb4 (show b ≠ b + 1 by omega) (.int .i64 0))
    have HC4 := Lib.hid (hc4.set_ 0 (.int .i64 0))
    have HO4 := Lib.hid (ho4.setCell (p := ⟨b + 1, 0, none⟩) (.inr (by show _ ≤ b + 1; omega)) (.int .i64 0))
    clear hb4 ho4 hc4
    go_wp2_with fail
    exact dec_done rfl rfl HU.out HB4.out HC4.out HO4.out (HQ.out.symm.trans HT.out) HUN.out HUX.out
  · have hq : (t.toList == s.toList) = false := by
      rw [Lib.toList_data, Lib.toList_data]; exact beq_eq_false_iff_ne.2 heq
    have HNO : Hid (∀ f, ¬ Code s.data.toList f) := Lib.hid (fun f hf => heq (by rw [HT.out, HUF.out f hf, hf.2]))
    clear heq
    go_wp2_with fail
    refine (need_false _).mono ?_
    rintro e wq ⟨rfl, hwq⟩
    subst hwq
    go_wp2_with fail
    exact dec_fail rfl rfl HU.out.prev HB3.out HC3.out HO3.out hb0 HNO.out
end Go.Proofs.YtclpebgjmgfigaaGreatDoor
