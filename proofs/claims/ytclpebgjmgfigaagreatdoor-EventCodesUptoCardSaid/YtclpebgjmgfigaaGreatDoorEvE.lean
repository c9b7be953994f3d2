/- What is proved here: codes and hashes of events, by the program. Conditions: names and texts are short; the table of powers of ten reads as its initialiser lays it. -/
import Derived.Test.YtclpebgjmgfigaaGreatDoorEvD
namespace Go.Proofs.YtclpebgjmgfigaaGreatDoor
open Go.RowKit Go.Shelf
theorem ev_all {w : World} {B : Nat} {e : Ev} (h : EvAt w B e) : w.rangeAt B 0 (evC e) := fun j v hj => by rw [Nat.zero_add, ev_cell h]; exact hj
/-- A whole event read, under a name that the walk does not open. -/
def evLoad (v : Value) : Sem Value := Instr.loadAt 29 v
theorem evLoad_eq (v : Value) : Instr.loadAt 29 v = evLoad v := rfl
attribute [local go_sem ↓ high] evLoad_eq
theorem ev_load {W : World} {B : Nat} {e : Ev} (h : EvAt W B e) (hp : e.prev.length = 32) : (evLoad (.pointer (some ⟨B, 0, none⟩))).run Tryz.prog W = .ok (.agg (evC e).toArray) W :=
  run_loadAt_mid W B 0 29 (evC e) _ (ev_all h) Tryz.underlying29 rfl (by rw [evC_len hp]; kernel_rfl)
set_option maxRecDepth 100000 in
set_option maxHeartbeats 4000000 in
theorem eencode_any (e : Ev) (he : e.Ok) (hn : e.name.size ≤ 8796093022208) (hx : e.text.size ≤ 8796093022208) (w : World) (ht : Tab w) : Calls Tryz.prog 13 #[.agg (evC e).toArray] w (RetStr (evCode e) w) := by
  obtain ⟨B, eB⟩ : ∃ B, B = w.heap.size := ⟨_, rfl⟩
  obtain ⟨X, eX⟩ : ∃ X, X = w.alloc (.cells (evC e).toArray tEv) := ⟨_, rfl⟩
  have hat : EvAt X B e := by rw [eX, eB]; exact Blk.new w _ _
  have hox : Only NoneOf w X := by rw [eX]; exact (Only.refl _ _).alloc _
  have hS : TxS w B e X.drew := ⟨hat.drew, hox.drew, ht.none hox.drew⟩
  have c44 : ∀ W, TxS w B e W → W.cell? ⟨B, 44, none⟩ = some (.int .i64 e.r) := fun W h => (ev_sig h.at_ he.prev).1
  have c45 : ∀ W, TxS w B e W → W.cell? ⟨B, 45, none⟩ = some (.int .i64 e.s) := fun W h => (ev_sig h.at_ he.prev).2
  have cld : ∀ W, TxS w B e W → (evLoad (.pointer (some ⟨B, 0, none⟩))).run Tryz.prog W = .ok (.agg (evC e).toArray) W := fun W h => ev_load h.at_ he.prev
  have hin : ∀ n ∈ [e.r, e.s], In n := by
    intro x hx
    simp only [List.mem_cons, List.not_mem_nil, or_false] at hx
    rcases hx with rfl | rfl
    · exact he.r
    · exact he.s
  have hnum : ∀ g W, IntsAt W g [e.r, e.s] → Tab W → Calls Tryz.prog 30 #[.slice (some ⟨g, 0, none⟩) 2 2] W (RetStr (numsL [e.r, e.s]) W) := fun g W h hT => enumbers_any [e.r, e.s] g 2 2 W h hin rfl (by omega) (by omega) (by omega) (by omega) hT
  have htx : ∀ W, Tab W → Calls Tryz.prog 11 #[.agg (evC e).toArray] W (RetStr (evText e) W) := fun W hT => etext_any e he hn hx W hT
  have htl : (evText e).length ≤ 17592186044416 + 400 := by
    have l1 := numsL_len e.nums he.nums_in
    have l2 := hexL_len e.prev
    have l3 := quoL_len e.name.data.toList (by rw [← size_list]; omega)
    have l4 := quoL_len e.text.data.toList (by rw [← size_list]; omega)
    rw [← size_list] at l3 l4
    rw [he.prev] at l2
    have l5 : e.nums.length = 10 := rfl
    unfold evText
    simp only [List.length_append, List.length_cons, List.length_nil]
    omega
  have hw : ∀ (g : Nat) (W : World) (t1 t2 : ByteArray), StrsAt W g 0 [t1, t2] → t1.data.toList = numsL [e.r, e.s] → t2.data.toList = evText e → Calls Tryz.prog 29 #[.slice (some ⟨g, 0, none⟩) 2 2] W (RetStr (evCode e) W) := by
    intro g W t1 t2 h h1 h2
    have hl : lenAll ([t1, t2].map (·.data.toList)) ≤ 35184372088832 := by
      have l1 := numsL_len [e.r, e.s] hin
      simp only [List.map_cons, List.map_nil, lenAll_cons, h1, h2]
      have l6 : lenAll [] = 0 := rfl
      simp only [List.length_cons, List.length_nil] at l1
      omega
    refine (ewords_any t1 [t2] g 0 2 2 W h rfl (by simp) (by simp) (by omega) (by omega) hl).mono ?_
    rintro e' W' ⟨t, rfl, ht, ho⟩
    refine ⟨t, rfl, ?_, ho⟩
    rw [ht]
    simp only [List.map_cons, List.map_nil, h1, h2]
    rw [join_two]
    rfl
  have HS := Lib.hid hS
  have HNUM := Lib.hid hnum
  have HTX := Lib.hid htx
  have HW := Lib.hid hw
  have EX := Lib.hid eX
  have EB := Lib.hid eB
  have HTAB : Hid (∀ W, TxS w B e W → Tab W) := Lib.hid (fun W h => h.tab)
  have HKEEP : Hid (∀ W W', TxS w B e W → Only NoneOf W W' → TxS w B e W') := Lib.hid (fun W W' h ho => ⟨h.at_.only ho (fun e => e), h.only.trans ho, h.tab.none ho⟩)
  have HALLOC : Hid (∀ W o, TxS w B e W → TxS w B e (W.alloc o)) := Lib.hid (fun W o h => HKEEP.out W _ h ((Only.refl _ _).alloc o))
  clear hat hox hS hnum htx hw eX eB he hn hx ht hin htl
  go_enter Tryz.func13, Tryz.ntmps13
  go_wp2_with fail
  rw [← EX.out, ← EB.out]
  clear EX EB
  have hS := HS.out
  go_region_held3 (fun w' => TxS w B e w') (first | assumption | exact HALLOC.out _ _ (by assumption))
    (first
      | (go_at_call 30; refine (HNUM.out _ _ (by first | exact ints_of (Blk.new _ _ _).drew | exact ints_of (Blk.new _ _ _)) (HTAB.out _ (by assumption))).mono ?_; rintro e1 w1 ⟨t1, rfl, ht1, ho1⟩; have hS1 := HKEEP.out _ _ (by assumption) ho1; have HT1 := Lib.hid ht1; clear ht1 ho1)
      | (go_at_call 11; refine (HTX.out _ (HTAB.out _ (by assumption))).mono ?_; rintro e2 w2 ⟨t2, rfl, ht2, ho2⟩; have hS2 := HKEEP.out _ _ (by assumption) ho2; have HT2 := Lib.hid ht2; clear ht2 ho2)
      | (go_at_call 29; refine (HW.out _ _ t1 t2 (by first | exact strs_of (Blk.new _ _ _) | exact strs_of (Blk.new _ _ _).drew) HT1.out HT2.out).mono ?_; rintro e5 w5 ⟨t5, rfl, ht5, ho5⟩; have hS5 := HKEEP.out _ _ (by assumption) ho5; have HT5 := Lib.hid ht5; clear ht5 ho5))
  all_goals
    go_wp2_with fail
    go_ret
    exact RetStr.mk HT5.out hS5.only
end Go.Proofs.YtclpebgjmgfigaaGreatDoor
