/- What is proved here: texts, codes and hashes of events, by the program. Conditions: names and texts are short; the table of powers of ten reads as its initialiser lays it. -/
import Derived.Test.YtclpebgjmgfigaaGreatDoorEvC
import Derived.Deep.RegionHeld3
namespace Go.Proofs.YtclpebgjmgfigaaGreatDoor
open Go.RowKit Go.Shelf
def EvAt (w : World) (B : Nat) (e : Ev) : Prop := Blk w B tEv (evC e).toArray
theorem ev_cell {w : World} {B : Nat} {e : Ev} (h : EvAt w B e) (i : Nat) : w.cell? ⟨B, i, none⟩ = (evC e)[i]? := by
  rw [Blk.cell h i]; simp
theorem ev_range {w : World} {B : Nat} {e : Ev} (h : EvAt w B e) : w.rangeAt B 12 (e.prev.map bv) := fun j v hj => by
  rw [ev_cell h]
  unfold evC
  rw [List.getElem?_append_right (by simp), List.getElem?_append_left (by simp; have := (List.getElem?_eq_some_iff.1 hj).1; simpa using this)]
  simpa using hj
theorem ev_sig {w : World} {B : Nat} {e : Ev} (h : EvAt w B e) (hp : e.prev.length = 32) : w.cell? ⟨B, 44, none⟩ = some (.int .i64 e.r) ∧ w.cell? ⟨B, 45, none⟩ = some (.int .i64 e.s) := by
  rw [ev_cell h, ev_cell h]
  unfold evC
  constructor
  · rw [List.getElem?_append_right (by simp), List.getElem?_append_right (by simp [hp])]; simp [hp]
  · rw [List.getElem?_append_right (by simp), List.getElem?_append_right (by simp [hp])]; simp [hp]
/-- What stays while an event is written out. -/
structure TxS (w : World) (B : Nat) (e : Ev) (W : World) : Prop where
  at_ : EvAt W B e
  only : Only NoneOf w W
  tab : Tab W
theorem txs_only {w W W' : World} {B : Nat} {e : Ev} (h : TxS w B e W ∧ W.rangeAt B 12 (e.prev.map bv)) (ho : Only NoneOf W W') : TxS w B e W' ∧ W'.rangeAt B 12 (e.prev.map bv) :=
  ⟨⟨h.1.at_.only ho (fun e => e), h.1.only.trans ho, h.1.tab.none ho⟩, ev_range (h.1.at_.only ho (fun e => e))⟩
theorem txs_alloc {w W : World} {B : Nat} {e : Ev} (h : TxS w B e W ∧ W.rangeAt B 12 (e.prev.map bv)) (o : Obj) : TxS w B e (W.alloc o) ∧ (W.alloc o).rangeAt B 12 (e.prev.map bv) := txs_only h ((Only.refl _ _).alloc o)
theorem txs_drew {w W : World} {B : Nat} {e : Ev} (h : TxS w B e W ∧ W.rangeAt B 12 (e.prev.map bv)) : TxS w B e W.drew ∧ W.drew.rangeAt B 12 (e.prev.map bv) := txs_only h (Only.refl _ _).drew
def evWord : ByteArray := ⟨#[101, 118, 101, 110, 116]⟩
theorem Ev.Ok.nums_in {e : Ev} (he : e.Ok) : ∀ n ∈ e.nums, In n := by
  intro x hx
  simp only [Ev.nums, List.mem_cons, List.not_mem_nil, or_false] at hx
  rcases hx with rfl | rfl | rfl | rfl | rfl | rfl | rfl | rfl | rfl | rfl <;> first | exact he.seq | exact he.kind | exact he.who | exact he.time | exact he.bidder | exact he.lot | exact he.n | exact he.other | exact he.sx | exact he.sy
theorem numsL_len (ns : List Int) (h : ∀ n ∈ ns, In n) : (numsL ns).length ≤ 22 * ns.length := by
  rw [numsL_join]
  cases ns with
  | nil => simp [joinW]
  | cons n l =>
    have h1 := lenAll_itoa (n :: l) h
    rw [List.map_cons, joinW_len, ← List.map_cons, List.length_map, List.length_cons] at *
    omega
theorem quoL_len (s : List UInt8) (h : s.length ≤ 9223372036854775807) : (quoL s).length ≤ s.length + 22 := by
  unfold quoL
  have := itoa_len (n := (s.length : Int)) (by omega) (by omega)
  rw [List.length_append, List.length_cons]
  omega
set_option maxRecDepth 100000 in
set_option maxHeartbeats 4000000 in
theorem etext_any (e : Ev) (he : e.Ok) (hn : e.name.size ≤ 8796093022208) (hx : e.text.size ≤ 8796093022208) (w : World) (ht : Tab w) : Calls Tryz.prog 11 #[.agg (evC e).toArray] w (RetStr (evText e) w) := by
  obtain ⟨B, eB⟩ : ∃ B, B = w.heap.size := ⟨_, rfl⟩
  obtain ⟨X, eX⟩ : ∃ X, X = w.alloc (.cells (evC e).toArray tEv) := ⟨_, rfl⟩
  have hat : EvAt X B e := by rw [eX, eB]; exact Blk.new w _ _
  have hox : Only NoneOf w X := by rw [eX]; exact (Only.refl _ _).alloc _
  have hS : TxS w B e X.drew ∧ X.drew.rangeAt B 12 (e.prev.map bv) := txs_drew ⟨⟨hat, hox, ht.none hox⟩, ev_range hat⟩
  have c0 : ∀ W, TxS w B e W → W.cell? ⟨B, 0, none⟩ = some (.int .i64 e.seq) := fun W h => ev_cell h.at_ 0
  have c1 : ∀ W, TxS w B e W → W.cell? ⟨B, 1, none⟩ = some (.int .i64 e.kind) := fun W h => ev_cell h.at_ 1
  have c2 : ∀ W, TxS w B e W → W.cell? ⟨B, 2, none⟩ = some (.int .i64 e.who) := fun W h => ev_cell h.at_ 2
  have c3 : ∀ W, TxS w B e W → W.cell? ⟨B, 3, none⟩ = some (.int .i64 e.time) := fun W h => ev_cell h.at_ 3
  have c4 : ∀ W, TxS w B e W → W.cell? ⟨B, 4, none⟩ = some (.int .i64 e.bidder) := fun W h => ev_cell h.at_ 4
  have c5 : ∀ W, TxS w B e W → W.cell? ⟨B, 5, none⟩ = some (.int .i64 e.lot) := fun W h => ev_cell h.at_ 5
  have c6 : ∀ W, TxS w B e W → W.cell? ⟨B, 6, none⟩ = some (.int .i64 e.n) := fun W h => ev_cell h.at_ 6
  have c7 : ∀ W, TxS w B e W → W.cell? ⟨B, 7, none⟩ = some (.int .i64 e.other) := fun W h => ev_cell h.at_ 7
  have c8 : ∀ W, TxS w B e W → W.cell? ⟨B, 8, none⟩ = some (.string e.name) := fun W h => ev_cell h.at_ 8
  have c9 : ∀ W, TxS w B e W → W.cell? ⟨B, 9, none⟩ = some (.string e.text) := fun W h => ev_cell h.at_ 9
  have c10 : ∀ W, TxS w B e W → W.cell? ⟨B, 10, none⟩ = some (.int .i64 e.sx) := fun W h => ev_cell h.at_ 10
  have c11 : ∀ W, TxS w B e W → W.cell? ⟨B, 11, none⟩ = some (.int .i64 e.sy) := fun W h => ev_cell h.at_ 11
  have hu := Tryz.underlying25
  have hi : (Tryz.prog.info? 25).map (·.size) = some (e.prev.map bv).length := by rw [List.length_map, he.prev]; kernel_rfl
  have hnum : ∀ g W, IntsAt W g e.nums → Tab W → Calls Tryz.prog 30 #[.slice (some ⟨g, 0, none⟩) 10 10] W (RetStr (numsL e.nums) W) := fun g W h hT => enumbers_any e.nums g 10 10 W h he.nums_in rfl (by omega) (by omega) (by omega) (by omega) hT
  have hdig : ∀ W, Calls Tryz.prog 31 #[.agg (e.prev.map bv).toArray] W (RetStr (hexL e.prev) W) := fun W => dtext_any e.prev he.prev W
  have hq1 : ∀ W, Tab W → Calls Tryz.prog 32 #[.string e.name] W (RetStr (quoL e.name.data.toList) W) := fun W hT => equoted_any e.name (by omega) W hT
  have hq2 : ∀ W, Tab W → Calls Tryz.prog 32 #[.string e.text] W (RetStr (quoL e.text.data.toList) W) := fun W hT => equoted_any e.text (by omega) W hT
  have hw : ∀ (g : Nat) (W : World) (t1 t2 t3 t4 : ByteArray), StrsAt W g 0 [evWord, t1, t2, t3, t4] → t1.data.toList = numsL e.nums → t2.data.toList = hexL e.prev → t3.data.toList = quoL e.name.data.toList → t4.data.toList = quoL e.text.data.toList → Calls Tryz.prog 29 #[.slice (some ⟨g, 0, none⟩) 5 5] W (RetStr (evText e) W) := by
    intro g W t1 t2 t3 t4 h h1 h2 h3 h4
    have hl : lenAll ([evWord, t1, t2, t3, t4].map (·.data.toList)) ≤ 35184372088832 := by
      have l1 := numsL_len e.nums he.nums_in
      have l2 := hexL_len e.prev
      have l3 := quoL_len e.name.data.toList (by rw [← size_list]; omega)
      have l4 := quoL_len e.text.data.toList (by rw [← size_list]; omega)
      rw [← size_list] at l3 l4
      rw [he.prev] at l2
      have l5 : e.nums.length = 10 := rfl
      have l0 : evWord.data.toList.length = 5 := rfl
      simp only [List.map_cons, List.map_nil, lenAll_cons, h1, h2, h3, h4]
      have l6 : lenAll [] = 0 := rfl
      omega
    refine (ewords_any evWord [t1, t2, t3, t4] g 0 5 5 W h rfl (by simp) (by simp) (by omega) (by omega) hl).mono ?_
    rintro e' W' ⟨t, rfl, ht, ho⟩
    refine ⟨t, rfl, ?_, ho⟩
    rw [ht]
    simp only [List.map_cons, List.map_nil, h1, h2, h3, h4]
    rw [join_quo]
    rfl
  have HTAB : Hid (∀ W, TxS w B e W ∧ W.rangeAt B 12 (e.prev.map bv) → Tab W) := Lib.hid (fun W h => h.1.tab)
  have HKEEP : Hid (∀ W W', TxS w B e W ∧ W.rangeAt B 12 (e.prev.map bv) → Only NoneOf W W' → TxS w B e W' ∧ W'.rangeAt B 12 (e.prev.map bv)) := Lib.hid (fun W W' h ho => txs_only h ho)
  have HALLOC : Hid (∀ W o, TxS w B e W ∧ W.rangeAt B 12 (e.prev.map bv) → TxS w B e (W.alloc o) ∧ (W.alloc o).rangeAt B 12 (e.prev.map bv)) := Lib.hid (fun W o h => txs_alloc h o)
  have HS := Lib.hid hS
  have HNUM := Lib.hid hnum
  have HDIG := Lib.hid hdig
  have HQ1 := Lib.hid hq1
  have HQ2 := Lib.hid hq2
  have HW := Lib.hid hw
  have EX := Lib.hid eX
  have EB := Lib.hid eB
  clear hat hox hS hnum hdig hq1 hq2 hw eX eB he hn hx ht
  go_enter Tryz.func11, Tryz.ntmps11
  go_wp2_with fail
  rw [← EX.out, ← EB.out]
  clear EX EB
  have hS := HS.out
  go_region_held3 (fun w' => TxS w B e w' ∧ w'.rangeAt B 12 (e.prev.map bv)) (first | assumption | exact HALLOC.out _ _ (by assumption))
    (first
      | (go_at_call 30; refine (HNUM.out _ _ (by first | exact ints_of (Blk.new _ _ _).drew | exact ints_of (Blk.new _ _ _)) (HTAB.out _ (by assumption))).mono ?_; rintro e1 w1 ⟨t1, rfl, ht1, ho1⟩; have hS1 := HKEEP.out _ _ (by assumption) ho1; have HT1 := Lib.hid ht1; clear ht1 ho1)
      | (go_at_call 31; refine (HDIG.out _).mono ?_; rintro e2 w2 ⟨t2, rfl, ht2, ho2⟩; have hS2 := HKEEP.out _ _ (by assumption) ho2; have HT2 := Lib.hid ht2; clear ht2 ho2)
      | (go_at_call 32; (with_reducible refine (HQ1.out _ (HTAB.out _ (by assumption))).mono ?_); rintro e3 w3 ⟨t3, rfl, ht3, ho3⟩; have hS3 := HKEEP.out _ _ (by assumption) ho3; have HT3 := Lib.hid ht3; clear ht3 ho3)
      | (go_at_call 32; (with_reducible refine (HQ2.out _ (HTAB.out _ (by assumption))).mono ?_); rintro e4 w4 ⟨t4, rfl, ht4, ho4⟩; have hS4 := HKEEP.out _ _ (by assumption) ho4; have HT4 := Lib.hid ht4; clear ht4 ho4)
      | (go_at_call 29; refine (HW.out _ _ t1 t2 t3 t4 (by first | exact strs_of (Blk.new _ _ _) | exact strs_of (Blk.new _ _ _).drew) HT1.out HT2.out HT3.out HT4.out).mono ?_; rintro e5 w5 ⟨t5, rfl, ht5, ho5⟩; have hS5 := HKEEP.out _ _ (by assumption) ho5; have HT5 := Lib.hid ht5; clear ht5 ho5))
  all_goals
    go_wp2_with fail
    go_ret
    exact RetStr.mk HT5.out hS5.1.only
end Go.Proofs.YtclpebgjmgfigaaGreatDoor
