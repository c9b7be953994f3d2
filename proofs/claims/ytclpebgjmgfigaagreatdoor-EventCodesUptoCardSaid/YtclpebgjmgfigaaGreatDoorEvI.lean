/- What is proved here: the empty string is no code of an event, by the program: its panic is recovered. No conditions but that memory has its shape. -/
import Derived.Test.YtclpebgjmgfigaaGreatDoorEvH
import Derived.Defers
namespace Go.Proofs.YtclpebgjmgfigaaGreatDoor
open Go.RowKit Go.Shelf
/-- A whole event written, under a name that the walk does not open. -/
def evStore (p v : Value) : Sem Unit := Instr.storeAt 29 p v
theorem evStore_eq (p v : Value) : Instr.storeAt 29 p v = evStore p v := rfl
attribute [local go_sem ↓ high] evStore_eq evLoad_eq
theorem ev_store {W : World} {b : Nat} {cs : List Value} (h : Blk W b tEv cs.toArray) (hl : cs.length = 46) {e : Ev} (hp : e.prev.length = 32) : (evStore (.pointer (some ⟨b, 0, none⟩)) (.agg (evC e).toArray)).run Tryz.prog W = .ok () (W.setCells b 0 (evC e)) := by
  have h1 := run_storeAt_mid (P := Tryz.prog) W b 0 29 (evC e).toArray (h.there 0 _ (by simp [evC_len hp, hl])) (by rw [List.size_toArray, evC_len hp]; kernel_rfl) (all_oneCell_toArray (fun v hv => by
    unfold evC at hv
    simp only [List.mem_append, List.mem_cons, List.not_mem_nil, or_false, List.mem_map] at hv
    rcases hv with (rfl | rfl | rfl | rfl | rfl | rfl | rfl | rfl | rfl | rfl | rfl | rfl) | ⟨x, _, rfl⟩ | rfl | rfl <;> rfl))
  exact h1
def zeroEv : Array Value := #[.int .i64 0, .int .i64 0, .int .i64 0, .int .i64 0, .int .i64 0, .int .i64 0, .int .i64 0, .int .i64 0, .string ⟨#[]⟩, .string ⟨#[]⟩, .int .i64 0, .int .i64 0, .int .u8 0, .int .u8 0, .int .u8 0, .int .u8 0, .int .u8 0, .int .u8 0, .int .u8 0, .int .u8 0, .int .u8 0, .int .u8 0, .int .u8 0, .int .u8 0, .int .u8 0, .int .u8 0, .int .u8 0, .int .u8 0, .int .u8 0, .int .u8 0, .int .u8 0, .int .u8 0, .int .u8 0, .int .u8 0, .int .u8 0, .int .u8 0, .int .u8 0, .int .u8 0, .int .u8 0, .int .u8 0, .int .u8 0, .int .u8 0, .int .u8 0, .int .u8 0, .int .i64 0, .int .i64 0]
theorem zeroEv_is : zeroEv = (evC blank0).toArray := rfl
set_option maxRecDepth 100000 in
/-- The deferred function marks the panic and lays the results. -/
theorem catch_wrong (b c : Nat) (w : World) (hb : Blk w b tEv (evC blank0).toArray) (hc : Blk w c 36 #[.int .i64 0]) (hne : b ≠ c) :
    CallsD Tryz.prog 39 #[.pointer (some ⟨b, 0, none⟩), .pointer (some ⟨c, 0, none⟩)] (.panicking wrongP) w fun e u' w' =>
      e = .returned (.tuple #[]) ∧ u' = .panicking [{ v := .iface 74 (.agg #[]), recovered := true }] ∧ w' = ((w.alloc (.cells #[] 74)).setCells b 0 (evC blank0)).setCell ⟨c, 0, none⟩ (.int .i64 11) := by
  have hst : (evStore (.pointer (some ⟨b, 0, none⟩)) (.agg #[.int .i64 0, .int .i64 0, .int .i64 0, .int .i64 0, .int .i64 0, .int .i64 0, .int .i64 0, .int .i64 0, .string ⟨#[]⟩, .string ⟨#[]⟩, .int .i64 0, .int .i64 0, .int .u8 0, .int .u8 0, .int .u8 0, .int .u8 0, .int .u8 0, .int .u8 0, .int .u8 0, .int .u8 0, .int .u8 0, .int .u8 0, .int .u8 0, .int .u8 0, .int .u8 0, .int .u8 0, .int .u8 0, .int .u8 0, .int .u8 0, .int .u8 0, .int .u8 0, .int .u8 0, .int .u8 0, .int .u8 0, .int .u8 0, .int .u8 0, .int .u8 0, .int .u8 0, .int .u8 0, .int .u8 0, .int .u8 0, .int .u8 0, .int .u8 0, .int .u8 0, .int .i64 0, .int .i64 0])).run Tryz.prog (w.alloc (.cells #[] 74)) = .ok () ((w.alloc (.cells #[] 74)).setCells b 0 (evC blank0)) := ev_store (e := blank0) (hb.alloc _) rfl rfl
  dsimp only at hst
  have hc1 := (hc.alloc (.cells #[] 74)).farCells (b := b) (fun e => hne e.symm) (evC blank0) 0
  have c0 := hc1.cell 0
  have f0 := hc1.frozen 0
  have hta : ∀ W, (Instr.typeAssert (.iface 74 (.agg #[])) 20 74 true).run Tryz.prog W = .ok (.tuple #[.agg #[], .bool true]) W := fun W => by kernel_rfl
  refine callsD_of_wpS Tryz.func39 rfl fun c₀ cs hu => ?_
  apply wpS_seq
  apply wpS_region
  simp [wpOpsS, go_sem, recoverD, hu, Tryz.ntmps39, Exit.thenS]
  have HST := Lib.hid hst
  have HC0 := Lib.hid (And.intro c0 f0)
  clear hst c0 f0 hb hc hc1
  apply wpS_seq
  apply wpS_region
  simp [wpOpsS, go_sem, Exit.thenS]
  refine wpS_cond (t := true) (by simp [Act.eval]) ?_
  simp only [if_true]
  apply wpS_seq
  apply wpS_seq
  apply wpS_region
  simp [wpOpsS, go_sem, Exit.thenS, hta]
  apply wpS_seq
  apply wpS_region
  simp [wpOpsS, go_sem, Exit.thenS]
  refine wpS_cond (t := false) (by simp [Act.eval, Array.replicate]) ?_
  simp only [Bool.false_eq_true, if_false]
  refine wpS_of_wp (wp_skip ?_)
  simp only [Exit.thenS]
  apply wpS_region
  have hst := HST.out
  obtain ⟨c0, f0⟩ := HC0.out
  simp [wpOpsS, go_sem, hst, c0, f0, bodyPostS, results, Tryz.results39]
theorem results_two {fn : Func} {p q : Tmp} {t u : TypeId} (h : fn.results = #[.cell p t, .cell q u]) (tmps : Array Value) (P : Program) (w : World) {a b : Addr} {va vb : Value} (hp : tmps.getD p undef = .pointer (some a)) (hq : tmps.getD q undef = .pointer (some b)) (h1 : (loadVar t a).run P w = .ok va w) (h2 : (loadVar u b).run P w = .ok vb w) : (results fn tmps).run P w = .ok (.tuple #[va, vb]) w := by
  simp only [results, h]
  rw [Array.getD_eq_getD_getElem?] at hp hq
  simp [Sem.run_bind, Result.andThen, hp, hq, asAddr, h1, h2]
theorem setCells_own {w : World} {b : Nat} {t : TypeId} {cs : List Value} (h : Blk w b t cs.toArray) {ds : List Value} (hl : ds.length = cs.length) : Blk (w.setCells b 0 ds) b t ds.toArray := h.filled ds hl
set_option maxRecDepth 100000 in
set_option maxHeartbeats 1000000 in
theorem edecode_none (w : World) (hs : w.ShapedOpen Tryz.prog) : Calls Tryz.prog 17 #[.string ⟨#[]⟩] w fun e w' => e = .returned (.tuple #[.agg (evC blank0).toArray, .int .i64 11]) ∧ Only NoneOf w w' := by
  have hmf : ∀ (fn : Fn) (first cap : Array Value) (w : World), (Instr.makeFunc fn first cap).run Tryz.prog w = .ok (.func fn first cap) w := fun _ _ _ _ => rfl
  have hY : Blk ((w.alloc (.cells (evC blank0).toArray tEv)).alloc (.cells #[.int .i64 0] 36)) w.heap.size tEv (evC blank0).toArray ∧ Blk ((w.alloc (.cells (evC blank0).toArray tEv)).alloc (.cells #[.int .i64 0] 36)) (w.heap.size + 1) 36 #[.int .i64 0] ∧ Only NoneOf w ((w.alloc (.cells (evC blank0).toArray tEv)).alloc (.cells #[.int .i64 0] 36)) := by
    have h2 := Blk.new (w.alloc (.cells (evC blank0).toArray tEv)) 36 #[.int .i64 0]
    rw [World.size_alloc] at h2
    exact ⟨(Blk.new w _ _).alloc _, h2, ((Only.refl _ _).alloc _).alloc _⟩
  obtain ⟨b, eb⟩ : ∃ b, b = w.heap.size := ⟨_, rfl⟩
  have HY := Lib.hid hY
  have HS := Lib.hid hs
  have EB := Lib.hid eb
  clear hY hs eb
  go_enter_defers Tryz.func17, Tryz.ntmps17
  go_upto_region 1 with (fail)
  refine wp_gen (fun Y => Blk Y w.heap.size tEv (evC blank0).toArray ∧ Blk Y (w.heap.size + 1) 36 #[.int .i64 0] ∧ Only NoneOf w Y) HY.out ?_
  rintro Y ⟨hb, hc, ho⟩
  rw [← EB.out] at hb hc ⊢
  have hb0 : w.heap.size ≤ b := Nat.le_of_eq EB.out.symm
  clear HY EB
  have HB := Lib.hid hb
  have HC := Lib.hid hc
  have HO := Lib.hid ho
  clear hb hc ho
  go_wp2_with fail
  refine (decode_none _ (HS.out.keptBut ((Only.below HO.out (Nat.le_refl _) (fun _ e => e.elim)).frame (fun _ => False)) (fun _ e => e.elim))).mono ?_
  rintro e w1 ⟨rfl, ho1⟩
  have hb1 := HB.out.only ho1 (fun e => e)
  have hc1 := HC.out.only ho1 (fun e => e)
  have HO1 := Lib.hid (HO.out.trans ho1)
  go_wp2_with fail
  have hne : b ≠ b + 1 := by omega
  have hbw : Blk (((w1.alloc (.cells #[] 74)).setCells b 0 (evC blank0)).setCell ⟨b + 1, 0, none⟩ (.int .i64 11)) b tEv (evC blank0).toArray := (setCells_own (hb1.alloc _) rfl).far (p := ⟨b + 1, 0, none⟩) hne _
  have hcw : Blk (((w1.alloc (.cells #[] 74)).setCells b 0 (evC blank0)).setCell ⟨b + 1, 0, none⟩ (.int .i64 11)) (b + 1) 36 #[.int .i64 11] := ((hc1.alloc _).farCells (b := b) (fun e => hne e.symm) (evC blank0) 0).set_ 0 (.int .i64 11)
  have hl1 := run_loadVar_mid (P := Tryz.prog) _ b 0 29 (evC blank0) _ (ev_all hbw) Tryz.underlying29 rfl (by kernel_rfl)
  have c1 := hcw.cell 0
  have hoW : Only NoneOf w (((w1.alloc (.cells #[] 74)).setCells b 0 (evC blank0)).setCell ⟨b + 1, 0, none⟩ (.int .i64 11)) := (only_setCells (HO1.out.alloc _) _ _ (.inr hb0) _).setCell (p := ⟨b + 1, 0, none⟩) (.inr (by show _ ≤ b + 1; omega)) _
  refine leaves_cons (f := 39) (args := #[.pointer (some ⟨b, 0, none⟩), .pointer (some ⟨b + 1, 0, none⟩)]) (by simp) (by simp [go_sem]) ?_
  refine (catch_wrong b (b + 1) w1 hb1 hc1 hne).mono ?_
  rintro e u' w'' ⟨rfl, rfl, rfl⟩
  simp only [List.getElem?_toArray, List.getElem?_cons_zero] at c1
  have hl2 : (loadVar 36 ⟨b + 1, 0, none⟩).run Tryz.prog (((w1.alloc (.cells #[] 74)).setCells b 0 (evC blank0)).setCell ⟨b + 1, 0, none⟩ (.int .i64 11)) = .ok (.int .i64 11) (((w1.alloc (.cells #[] 74)).setCells b 0 (evC blank0)).setCell ⟨b + 1, 0, none⟩ (.int .i64 11)) := by
    simp [go_sem, c1]
  exact ⟨_, results_two rfl _ _ _ rfl rfl hl1 hl2, rfl, hoW⟩
end Go.Proofs.YtclpebgjmgfigaaGreatDoor
