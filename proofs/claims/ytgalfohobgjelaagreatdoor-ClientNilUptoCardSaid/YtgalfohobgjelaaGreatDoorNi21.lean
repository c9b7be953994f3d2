/- What is proved here: several parts. hashes of leaves and of nodes, by the program and by the reference; the root of no leaves. Conditions: texts are short, hashes have 32 bytes. · roots of lists of texts, by the reference; the program's root of no texts. Conditions: there are few texts, and they are short. · slices of hashes, those that come in and those that a call makes. Conditions: hashes have 32 bytes. · how many hashes a path and a growth have, by the reference. Conditions: the sizes are at most a thousand. -/
import Derived.Test.YtgalfohobgjelaaGreatDoorNi03
import Derived.Test.YtgalfohobgjelaaGreatDoorNi04
import Derived.Test.YtgalfohobgjelaaGreatDoorNi05
import Derived.Test.YtgalfohobgjelaaGreatDoorNi09
import Derived.Test.YtgalfohobgjelaaGreatDoorNi18
import Derived.Test.YtgalfohobgjelaaGreatDoorNi20
import Derived.Deep.DeepCutAuto
import Derived.Great.BuildSlice
import Derived.Deep.AppendLies
namespace Go.Proofs.YtgalfohobgjelaaGreatDoor
open Go.RowKit Go.Shelf
theorem tr_back {W : World} {g n cap : Nat} {l : List UInt8} (hb : BytesAt W g 0 l) (hl : l.length = n) : (convert 22 9 (.slice (some ⟨g, 0, none⟩) n cap)).run Tryz.prog W = .ok (.string ⟨l.toArray⟩) W := by
  subst hl
  exact run_convert_bytes_back (P := Tryz.prog) W 22 9 5 ⟨g, 0, none⟩ cap l Tryz.underlying22 Tryz.underlying5 Tryz.underlying9 (fun j hj => by
    rw [Addr.add_mid]
    exact hb j _ (List.getElem?_eq_getElem hj))
/-- Hashes loaded and stored, under names that the walk does not open. -/
def haLoad (v : Value) : Sem Value := Instr.loadAt 35 v
theorem haLoad_eq (v : Value) : Instr.loadAt 35 v = haLoad v := rfl
def haStore (p v : Value) : Sem Unit := Instr.storeAt 35 p v
theorem haStore_eq (p v : Value) : Instr.storeAt 35 p v = haStore p v := rfl
abbrev tHa : TypeId := 35
/-- A hash in a block of its own. -/
def HaAt (w : World) (B : Nat) (l : Hs) : Prop := Blk w B tHa (l.map bv).toArray
def zeroH : Hs := List.replicate 32 0
theorem zeroH_cells : (zeroH.map bv).toArray = Array.replicate 32 (.int .u8 0) := by
  rw [zeroH, List.map_replicate, List.toArray_replicate]
  rfl
theorem ha_load {W : World} {g o : Nat} {l : Hs} (h : W.rangeAt g o (l.map bv)) (hl : l.length = 32) : (haLoad (.pointer (some ⟨g, o, none⟩))).run Tryz.prog W = .ok (hv l) W :=
  run_loadAt_mid W g o 35 (l.map bv) _ h Tryz.underlying35 rfl (by rw [List.length_map, hl]; kernel_rfl)
theorem ha_store {W : World} {g : Nat} {l m : Hs} (h : HaAt W g l) (hl : l.length = 32) (hm : m.length = 32) : (haStore (.pointer (some ⟨g, 0, none⟩)) (hv m)).run Tryz.prog W = .ok () (W.setCells g 0 (m.map bv)) :=
  run_storeAt_mid (P := Tryz.prog) W g 0 35 (m.map bv).toArray (Blk.there h 0 _ (by simp [hl, hm])) (by rw [List.size_toArray, List.length_map, hm]; kernel_rfl) (all_oneCell_toArray (bvs_one _))
theorem HaAt.range {W : World} {g : Nat} {l : Hs} (h : HaAt W g l) : W.rangeAt g 0 (l.map bv) := fun j v hj => by rw [Nat.zero_add, Blk.cell h]; simpa using hj
theorem HaAt.bytes {W : World} {g : Nat} {l : Hs} (h : HaAt W g l) : BytesAt W g 0 l := fun j x hx => by rw [Nat.zero_add, Blk.cell h]; simp [hx]
theorem HaAt.put {W : World} {g : Nat} {l m : Hs} (h : HaAt W g l) (hl : l.length = 32) (hm : m.length = 32) : HaAt (W.setCells g 0 (m.map bv)) g m := by
  have h1 : Blk W g tHa (l.map bv).toArray := h
  exact h1.filled (m.map bv) (by rw [List.length_map, List.length_map, hl, hm])
theorem leafL_len (s : List UInt8) : (leafL s).length = 32 := shaL_len _
theorem nodeL_len (a b : Hs) : (nodeL a b).length = 32 := shaL_len _
theorem ha_info {l : Hs} (hl : l.length = 32) : (Tryz.prog.info? 35).map (·.size) = some (l.map bv).toArray.size := by rw [List.size_toArray, List.length_map, hl]; kernel_rfl
/-- What lies there of two hashes and the result. -/
structure NdS (w : World) (B : Nat) (a b : Hs) (W : World) : Prop where
  a : HaAt W B a
  b : HaAt W (B + 1) b
  r : HaAt W (B + 1 + 1) zeroH
  only : Only NoneOf w W
theorem NdS.keep {w : World} {B : Nat} {a b : Hs} {W W' : World} (h : NdS w B a b W) (ho : Only NoneOf W W') : NdS w B a b W' :=
  ⟨Blk.only h.a ho (fun e => e), Blk.only h.b ho (fun e => e), Blk.only h.r ho (fun e => e), h.only.trans ho⟩
theorem NdS.new (w : World) (a b : Hs) : NdS w w.heap.size a b (((w.alloc (.cells (a.map bv).toArray 35)).alloc (.cells (b.map bv).toArray 35)).alloc (.cells (Array.replicate 32 (.int .u8 0)) 35)) := by
  have h2 := Blk.new (w.alloc (.cells (a.map bv).toArray 35)) tHa (b.map bv).toArray
  have h3 := Blk.new ((w.alloc (.cells (a.map bv).toArray 35)).alloc (.cells (b.map bv).toArray 35)) tHa (Array.replicate 32 (.int .u8 0))
  rw [World.size_alloc] at h2
  rw [World.size_alloc, World.size_alloc] at h3
  refine ⟨((Blk.new w _ _).alloc _).alloc _, h2.alloc _, ?_, (((Only.refl _ _).alloc _).alloc _).alloc _⟩
  unfold HaAt
  rw [zeroH_cells]
  exact h3
attribute [local go_sem ↓ high] haLoad_eq haStore_eq
set_option maxRecDepth 100000 in
set_option maxHeartbeats 2000000 in
theorem tleaf_any (s : ByteArray) (w : World) (hs : s.size ≤ 17592186044416) : Calls Tryz.prog 106 #[.string s] w fun e w' => e = .returned (hv (leafL s.data.toList)) ∧ Only NoneOf w w' := by
  obtain ⟨T, eT⟩ : ∃ T : ByteArray, T = ⟨#[0]⟩ ++ s := ⟨_, rfl⟩
  have hT : T.data.toList = 0 :: s.data.toList := by rw [eT, ByteArray.data_append, Array.toList_append]; rfl
  have hTs : T.size = 1 + s.size := by rw [eT, ByteArray.size_append]; rfl
  have q1 : ¬ 9223372036854775807 < 1 + s.size := by omega
  obtain ⟨m, em⟩ : ∃ m, m = leafL s.data.toList := ⟨_, rfl⟩
  have hm : m.length = 32 := by rw [em]; exact leafL_len _
  have hsum : ∀ W, Calls Tryz.prog 80 #[.string T] W fun e w' => e = .returned (hv m) ∧ Only NoneOf W w' := fun W => by
    have h := sum_any T W (by omega)
    rw [hT] at h
    rw [em]; exact h
  rw [← em]
  have hcat := eT.symm
  have hb0 : HaAt (w.alloc (.cells (Array.replicate 32 (.int .u8 0)) 35)) w.heap.size zeroH := by
    unfold HaAt
    rw [zeroH_cells]
    exact Blk.new w _ _
  obtain ⟨B, eB⟩ : ∃ B, B = w.heap.size := ⟨_, rfl⟩
  rw [← eB] at hb0
  have HB0 := Lib.hid hb0
  have EB := Lib.hid eB
  have HSUM := Lib.hid hsum
  have HM := Lib.hid hm
  clear hsum em hT hTs eT hm hb0 eB hs
  go_enter Tryz.func106, Tryz.ntmps106
  go_upto_region 1 with (fail)
  rw [← EB.out]
  refine wp_gen (fun Z => HaAt Z B zeroH ∧ Only NoneOf w Z) ⟨HB0.out, (Only.refl _ _).alloc _⟩ ?_
  rintro Z ⟨hz, hzo⟩
  have HZ := Lib.hid (And.intro hz hzo)
  clear hz hzo HB0
  go_wp2_with fail
  refine (HSUM.out _).mono ?_
  rintro e1 w1 ⟨rfl, ho1⟩
  have hb1 : HaAt w1 B zeroH := Blk.only HZ.out.1 ho1 (fun e => e)
  have hst := ha_store hb1 rfl HM.out
  have HB2 := Lib.hid (hb1.put rfl HM.out)
  have HO2 := Lib.hid (only_setCells (HZ.out.2.trans ho1) B 0 (.inr (by have := EB.out; omega)) (m.map bv))
  clear hb1 ho1
  go_wp2_with fail
  refine bodyPost_ret (v := hv m) (results_blk rfl rfl HB2.out Tryz.underlying35 rfl (ha_info HM.out)) rfl ⟨rfl, HO2.out⟩
set_option maxRecDepth 100000 in
set_option maxHeartbeats 2000000 in
theorem tnode_any (a b : Hs) (ha : a.length = 32) (hb : b.length = 32) (w : World) : Calls Tryz.prog 84 #[hv a, hv b] w fun e w' => e = .returned (hv (nodeL a b)) ∧ Only NoneOf w w' := by
  obtain ⟨SA, eSA⟩ : ∃ A : ByteArray, A = ⟨a.toArray⟩ := ⟨_, rfl⟩
  obtain ⟨SB, eSB⟩ : ∃ A : ByteArray, A = ⟨b.toArray⟩ := ⟨_, rfl⟩
  have zA : SA.size = 32 := by rw [size_list, eSA]; simpa using ha
  have zB : SB.size = 32 := by rw [size_list, eSB]; simpa using hb
  obtain ⟨T, eT⟩ : ∃ T : ByteArray, T = ⟨#[1]⟩ ++ SA ++ SB := ⟨_, rfl⟩
  have hT : T.data.toList = 1 :: (a ++ b) := by rw [eT, eSA, eSB]; simp
  have hTs : T.size = 65 := by rw [eT, ByteArray.size_append, ByteArray.size_append, zA, zB]; rfl
  have q1 : ¬ 9223372036854775807 < 1 + SA.size := by omega
  have q2 : ¬ 9223372036854775807 < 1 + SA.size + SB.size := by omega
  obtain ⟨m, em⟩ : ∃ m, m = nodeL a b := ⟨_, rfl⟩
  have hm : m.length = 32 := by rw [em]; exact nodeL_len _ _
  have hsum : ∀ W, Calls Tryz.prog 80 #[.string T] W fun e w' => e = .returned (hv m) ∧ Only NoneOf W w' := fun W => by
    have h := sum_any T W (by omega)
    rw [hT] at h
    rw [em]; exact h
  rw [← em]
  have hcat := eT.symm
  obtain ⟨B, eB⟩ : ∃ B, B = w.heap.size := ⟨_, rfl⟩
  have hS0 := NdS.new w a b
  rw [← eB] at hS0
  have HS0 := Lib.hid hS0
  have EB := Lib.hid eB
  have HSUM := Lib.hid hsum
  have HM := Lib.hid hm
  have HAB := Lib.hid (And.intro ha hb)
  have ESA := Lib.hid eSA
  have ESB := Lib.hid eSB
  clear hsum em hT hTs eT hm hS0 eB ha hb eSA eSB zA zB
  unfold hv
  go_enter Tryz.func84, Tryz.ntmps84
  go_upto_region 1 with (fail)
  rw [← EB.out]
  refine wp_gen (NdS w B a b) HS0.out ?_
  intro Z hZ
  obtain ⟨f, hfx⟩ := family (NdS w B a b) (hZ.keep (Only.refl _ _).drew)
  obtain ⟨F, hI, hF0, hF, hFS⟩ := hfx
  have C1 : Hid (∀ x, Calls Tryz.prog 80 #[.string T] (F x) fun e w' => e = .returned (hv m) ∧ ∃ y, w' = F y) := Lib.hid (fun x => (HSUM.out (F x)).mono (fun e w' hh => ⟨hh.1, (hF w').1 ((hFS x).keep hh.2)⟩))
  have m1 : ∀ x, (convert 22 9 (.slice (some ⟨B, 0, none⟩) 32 32)).run Tryz.prog (F x) = .ok (.string SA) (F x) := fun x => by rw [ESA.out]; exact tr_back (hFS x).a.bytes HAB.out.1
  have m2 : ∀ x, (convert 22 9 (.slice (some ⟨B + 1, 0, none⟩) 32 32)).run Tryz.prog (F x) = .ok (.string SB) (F x) := fun x => by rw [ESB.out]; exact tr_back (hFS x).b.bytes HAB.out.2
  have HF := Lib.hid hF
  have HF0 := Lib.hid hF0
  clear hF hF0 hFS hZ HS0 HSUM
  refine wp_region_family_tail F 7 (by kernel_rfl) (by kernel_rfl) HF0.out ?_
  simp only [List.take_succ_cons, List.take_zero, List.drop_succ_cons, List.drop_zero]
  repeat (go_big_quiet_step (with_reducible exact C1.out _))
  refine wpQuiet_nil ?_
  intro w9 hw9
  have hS9 := (HF.out w9).2 hw9
  have hst := ha_store hS9.r rfl HM.out
  have HB2 := Lib.hid (hS9.r.put rfl HM.out)
  have HO2 := Lib.hid (only_setCells hS9.only (B + 1 + 1) 0 (.inr (by have := EB.out; omega)) (m.map bv))
  clear hw9 hS9 m1 m2
  go_wp2_with fail
  refine bodyPost_ret (v := hv m) (results_blk rfl rfl HB2.out Tryz.underlying35 rfl (ha_info HM.out)) rfl ⟨rfl, HO2.out⟩
set_option maxRecDepth 100000 in
set_option maxHeartbeats 2000000 in
theorem rleaf_any (s : ByteArray) (w : World) (hs : s.size ≤ 17592186044416) : Calls Tryz.prog 72 #[.string s] w fun e w' => e = .returned (hv (leafL s.data.toList)) ∧ Only NoneOf w w' := by
  obtain ⟨T, eT⟩ : ∃ T : ByteArray, T = ⟨#[0]⟩ ++ s := ⟨_, rfl⟩
  have hT : T.data.toList = 0 :: s.data.toList := by rw [eT, ByteArray.data_append, Array.toList_append]; rfl
  have hTs : T.size = 1 + s.size := by rw [eT, ByteArray.size_append]; rfl
  have q1 : ¬ 9223372036854775807 < 1 + s.size := by omega
  obtain ⟨m, em⟩ : ∃ m, m = leafL s.data.toList := ⟨_, rfl⟩
  have hm : m.length = 32 := by rw [em]; exact leafL_len _
  have hsum : ∀ W, Calls Tryz.prog 71 #[.string T] W fun e w' => e = .returned (hv m) ∧ Only NoneOf W w' := fun W => by
    have h := rsum_any T W (by omega)
    rw [hT] at h
    rw [em]; exact h
  rw [← em]
  have hcat := eT.symm
  have hb0 : HaAt (w.alloc (.cells (Array.replicate 32 (.int .u8 0)) 35)) w.heap.size zeroH := by
    unfold HaAt
    rw [zeroH_cells]
    exact Blk.new w _ _
  obtain ⟨B, eB⟩ : ∃ B, B = w.heap.size := ⟨_, rfl⟩
  rw [← eB] at hb0
  have HB0 := Lib.hid hb0
  have EB := Lib.hid eB
  have HSUM := Lib.hid hsum
  have HM := Lib.hid hm
  clear hsum em hT hTs eT hm hb0 eB hs
  go_enter Tryz.func72, Tryz.ntmps72
  go_upto_region 1 with (fail)
  rw [← EB.out]
  refine wp_gen (fun Z => HaAt Z B zeroH ∧ Only NoneOf w Z) ⟨HB0.out, (Only.refl _ _).alloc _⟩ ?_
  rintro Z ⟨hz, hzo⟩
  have HZ := Lib.hid (And.intro hz hzo)
  clear hz hzo HB0
  go_wp2_with fail
  refine (HSUM.out _).mono ?_
  rintro e1 w1 ⟨rfl, ho1⟩
  have hb1 : HaAt w1 B zeroH := Blk.only HZ.out.1 ho1 (fun e => e)
  have hst := ha_store hb1 rfl HM.out
  have HB2 := Lib.hid (hb1.put rfl HM.out)
  have HO2 := Lib.hid (only_setCells (HZ.out.2.trans ho1) B 0 (.inr (by have := EB.out; omega)) (m.map bv))
  clear hb1 ho1
  go_wp2_with fail
  refine bodyPost_ret (v := hv m) (results_blk rfl rfl HB2.out Tryz.underlying35 rfl (ha_info HM.out)) rfl ⟨rfl, HO2.out⟩
set_option maxRecDepth 100000 in
set_option maxHeartbeats 2000000 in
theorem rnode_any (a b : Hs) (ha : a.length = 32) (hb : b.length = 32) (w : World) : Calls Tryz.prog 73 #[hv a, hv b] w fun e w' => e = .returned (hv (nodeL a b)) ∧ Only NoneOf w w' := by
  obtain ⟨SA, eSA⟩ : ∃ A : ByteArray, A = ⟨a.toArray⟩ := ⟨_, rfl⟩
  obtain ⟨SB, eSB⟩ : ∃ A : ByteArray, A = ⟨b.toArray⟩ := ⟨_, rfl⟩
  have zA : SA.size = 32 := by rw [size_list, eSA]; simpa using ha
  have zB : SB.size = 32 := by rw [size_list, eSB]; simpa using hb
  obtain ⟨T, eT⟩ : ∃ T : ByteArray, T = ⟨#[1]⟩ ++ SA ++ SB := ⟨_, rfl⟩
  have hT : T.data.toList = 1 :: (a ++ b) := by rw [eT, eSA, eSB]; simp
  have hTs : T.size = 65 := by rw [eT, ByteArray.size_append, ByteArray.size_append, zA, zB]; rfl
  have q1 : ¬ 9223372036854775807 < 1 + SA.size := by omega
  have q2 : ¬ 9223372036854775807 < 1 + SA.size + SB.size := by omega
  obtain ⟨m, em⟩ : ∃ m, m = nodeL a b := ⟨_, rfl⟩
  have hm : m.length = 32 := by rw [em]; exact nodeL_len _ _
  have hsum : ∀ W, Calls Tryz.prog 71 #[.string T] W fun e w' => e = .returned (hv m) ∧ Only NoneOf W w' := fun W => by
    have h := rsum_any T W (by omega)
    rw [hT] at h
    rw [em]; exact h
  rw [← em]
  have hcat := eT.symm
  obtain ⟨B, eB⟩ : ∃ B, B = w.heap.size := ⟨_, rfl⟩
  have hS0 := NdS.new w a b
  rw [← eB] at hS0
  have HS0 := Lib.hid hS0
  have EB := Lib.hid eB
  have HSUM := Lib.hid hsum
  have HM := Lib.hid hm
  have HAB := Lib.hid (And.intro ha hb)
  have ESA := Lib.hid eSA
  have ESB := Lib.hid eSB
  clear hsum em hT hTs eT hm hS0 eB ha hb eSA eSB zA zB
  unfold hv
  go_enter Tryz.func73, Tryz.ntmps73
  go_upto_region 1 with (fail)
  rw [← EB.out]
  refine wp_gen (NdS w B a b) HS0.out ?_
  intro Z hZ
  obtain ⟨f, hfx⟩ := family (NdS w B a b) (hZ.keep (Only.refl _ _).drew)
  obtain ⟨F, hI, hF0, hF, hFS⟩ := hfx
  have C1 : Hid (∀ x, Calls Tryz.prog 71 #[.string T] (F x) fun e w' => e = .returned (hv m) ∧ ∃ y, w' = F y) := Lib.hid (fun x => (HSUM.out (F x)).mono (fun e w' hh => ⟨hh.1, (hF w').1 ((hFS x).keep hh.2)⟩))
  have m1 : ∀ x, (convert 22 9 (.slice (some ⟨B, 0, none⟩) 32 32)).run Tryz.prog (F x) = .ok (.string SA) (F x) := fun x => by rw [ESA.out]; exact tr_back (hFS x).a.bytes HAB.out.1
  have m2 : ∀ x, (convert 22 9 (.slice (some ⟨B + 1, 0, none⟩) 32 32)).run Tryz.prog (F x) = .ok (.string SB) (F x) := fun x => by rw [ESB.out]; exact tr_back (hFS x).b.bytes HAB.out.2
  have HF := Lib.hid hF
  have HF0 := Lib.hid hF0
  clear hF hF0 hFS hZ HS0 HSUM
  refine wp_region_family_tail F 7 (by kernel_rfl) (by kernel_rfl) HF0.out ?_
  simp only [List.take_succ_cons, List.take_zero, List.drop_succ_cons, List.drop_zero]
  repeat (go_big_quiet_step (with_reducible exact C1.out _))
  refine wpQuiet_nil ?_
  intro w9 hw9
  have hS9 := (HF.out w9).2 hw9
  have hst := ha_store hS9.r rfl HM.out
  have HB2 := Lib.hid (hS9.r.put rfl HM.out)
  have HO2 := Lib.hid (only_setCells hS9.only (B + 1 + 1) 0 (.inr (by have := EB.out; omega)) (m.map bv))
  clear hw9 hS9 m1 m2
  go_wp2_with fail
  refine bodyPost_ret (v := hv m) (results_blk rfl rfl HB2.out Tryz.underlying35 rfl (ha_info HM.out)) rfl ⟨rfl, HO2.out⟩
end Go.Proofs.YtgalfohobgjelaaGreatDoor
namespace Go.Proofs.YtgalfohobgjelaaGreatDoor
open Go.RowKit Go.Shelf
attribute [local go_sem ↓ high] haLoad_eq haStore_eq
/-- A slice that reads as these texts. -/
def StSl (w : World) (v : Value) (L : List ByteArray) : Prop :=
  ∃ A cap, v = .slice A L.length cap ∧ L.length ≤ cap ∧ cap ≤ 9223372036854775807 ∧ ∀ (i : Nat) (s : ByteArray), L[i]? = some s → ∃ g o, A = some ⟨g, o, none⟩ ∧ w.cell? ⟨g, o + i, none⟩ = some (.string s)
theorem StSl.only {w w' : World} {v : Value} {L : List ByteArray} (h : StSl w v L) (ho : Only NoneOf w w') : StSl w' v L := by
  obtain ⟨A, cap, hv, h1, h2, h3⟩ := h
  refine ⟨A, cap, hv, h1, h2, fun i s hs => ?_⟩
  obtain ⟨g, o, hA, hc⟩ := h3 i s hs
  exact ⟨g, o, hA, ho.cell_some hc (fun e => e)⟩
theorem StSl.nil (w : World) : StSl w (.slice none 0 0) [] := ⟨none, 0, rfl, Nat.le_refl _, by omega, fun i s h => by simp at h⟩
theorem StSl.take {w : World} {g o n cap k : Nat} {L : List ByteArray} (h : StSl w (.slice (some ⟨g, o, none⟩) n cap) L) (hk : k ≤ L.length) : StSl w (.slice (some ⟨g, o, none⟩) k cap) (L.take k) := by
  obtain ⟨A, cap', e, h1, h2, h3⟩ := h
  simp only [Value.slice.injEq] at e
  obtain ⟨rfl, rfl, rfl⟩ := e
  refine ⟨some ⟨g, o, none⟩, cap, by rw [List.length_take, Nat.min_eq_left hk], by rw [List.length_take]; omega, h2, fun i s hs => ?_⟩
  obtain ⟨g', o', e, hc⟩ := h3 i s (by
    rw [List.getElem?_take] at hs
    split at hs
    · exact hs
    · cases hs)
  exact ⟨g', o', e, hc⟩
theorem StSl.drop {w : World} {g o n cap k : Nat} {L : List ByteArray} (h : StSl w (.slice (some ⟨g, o, none⟩) n cap) L) (hk : k ≤ L.length) : StSl w (.slice (some ⟨g, o + k, none⟩) (L.length - k) (cap - k)) (L.drop k) := by
  obtain ⟨A, cap', e, h1, h2, h3⟩ := h
  simp only [Value.slice.injEq] at e
  obtain ⟨rfl, rfl, rfl⟩ := e
  refine ⟨some ⟨g, o + k, none⟩, cap - k, by rw [List.length_drop], by rw [List.length_drop]; omega, by omega, fun i s hs => ?_⟩
  rw [List.getElem?_drop] at hs
  obtain ⟨g', o', e, hc⟩ := h3 (k + i) s hs
  simp only [Option.some.injEq, Addr.mk.injEq, and_true] at e
  obtain ⟨rfl, rfl⟩ := e
  exact ⟨g, o + k, rfl, by rw [Nat.add_assoc]; exact hc⟩
/-- The texts as lists of bytes. -/
def txs (L : List ByteArray) : List (List UInt8) := L.map (·.data.toList)
theorem txs_len (L : List ByteArray) : (txs L).length = L.length := List.length_map _
def ShortTs (L : List ByteArray) : Prop := ∀ s ∈ L, s.size ≤ 17592186044416
/-- What lies there while a root is made. -/
structure RtS (w : World) (B : Nat) (v : Value) (L : List ByteArray) (W : World) : Prop where
  l : StSl W v L
  r : HaAt W B zeroH
  only : Only NoneOf w W
theorem RtS.keep {w : World} {B : Nat} {v : Value} {L : List ByteArray} {W W' : World} (h : RtS w B v L W) (ho : Only NoneOf W W') : RtS w B v L W' := ⟨h.l.only ho, Blk.only h.r ho (fun e => e), h.only.trans ho⟩
theorem RtS.new {w : World} {v : Value} {L : List ByteArray} (h : StSl w v L) : RtS w w.heap.size v L (w.alloc (.cells (Array.replicate 32 (.int .u8 0)) 35)) := by
  refine ⟨h.only ((Only.refl _ _).alloc _), ?_, (Only.refl _ _).alloc _⟩
  unfold HaAt
  rw [zeroH_cells]
  exact Blk.new w _ _
theorem rootL_len (l : List (List UInt8)) : (rootL l).length = 32 := by
  have : ∀ f l, (rootF f l).length = 32 := fun f => by
    induction f with
    | zero => intro l; exact shaL_len _
    | succ f ih =>
      intro l
      match l with
      | [] => exact shaL_len _
      | [x] => exact shaL_len _
      | x :: y :: l => exact shaL_len _
  exact this _ _
set_option maxRecDepth 100000 in
set_option maxHeartbeats 4000000 in
theorem rroot_any : ∀ (f : Nat) (L : List ByteArray) (_ : L.length ≤ f) (_ : L.length ≤ 1000) (_ : ShortTs L) (v : Value) (w : World) (_ : StSl w v L), Calls Tryz.prog 42 #[v] w fun e w' => e = .returned (hv (rootL (txs L))) ∧ Only NoneOf w w'
  | f, L, hf, hm, hsh, v, w, hs => by
    obtain ⟨m, em⟩ : ∃ m, m = rootL (txs L) := ⟨_, rfl⟩
    have hml : m.length = 32 := by rw [em]; exact rootL_len _
    rw [← em]
    obtain ⟨A, cap, rfl, hlc, hcm, hA⟩ := id hs
    have hS0 := RtS.new hs
    obtain ⟨B, eB⟩ : ∃ B, B = w.heap.size := ⟨_, rfl⟩
    rw [← eB] at hS0
    have HS0 := Lib.hid hS0
    have EB := Lib.hid eB
    have EM := Lib.hid em
    have HML := Lib.hid hml
    have HSH := Lib.hid hsh
    by_cases h0 : L.length = 0
    · have hL : L = [] := List.eq_nil_of_length_eq_zero h0
      subst hL
      have hsum : ∀ W, Calls Tryz.prog 71 #[.string ⟨#[]⟩] W fun e w' => e = .returned (hv m) ∧ Only NoneOf W w' := fun W => by
        rw [em]; exact rsum_any ⟨#[]⟩ W (by decide)
      have HSUM := Lib.hid hsum
      clear hsum em hml hsh hs hA hS0 eB h0 hf hm
      go_enter Tryz.func42, Tryz.ntmps42
      go_upto_region 1 with (fail)
      rw [← EB.out]
      refine wp_gen (RtS w B (.slice A [].length cap) []) HS0.out ?_
      intro Z hZ
      have HZ := Lib.hid hZ
      clear hZ HS0
      go_wp2_with fail
      refine (HSUM.out _).mono ?_
      rintro e1 w1 ⟨rfl, ho1⟩
      have hb1 := HZ.out.keep ho1
      have hst := ha_store hb1.r rfl HML.out
      have HB2 := Lib.hid (hb1.r.put rfl HML.out)
      have HO2 := Lib.hid (only_setCells hb1.only B 0 (.inr (by have := EB.out; omega)) (m.map bv))
      clear hb1 ho1
      go_wp2_with fail
      refine bodyPost_ret (v := hv m) (results_blk rfl rfl HB2.out Tryz.underlying35 rfl (ha_info HML.out)) rfl ⟨rfl, HO2.out⟩
    · have d0 : ((L.length : Int) == 0) = false := by rw [beq_eq_false_iff_ne]; omega
      obtain ⟨s0, hs0⟩ : ∃ s, L[0]? = some s := ⟨_, List.getElem?_eq_getElem (by omega)⟩
      obtain ⟨g, o, rfl, hc0⟩ := hA 0 s0 hs0
      by_cases h1 : L.length = 1
      · have hL : L = [s0] := by
          match L, h1, hs0 with
          | [x], _, h => simp at h; rw [h]
        have d1 : ((L.length : Int) == 1) = true := by simp [h1]
        have il : (0 : Int) < (L.length : Int) := by omega
        have hleaf : ∀ W, Calls Tryz.prog 72 #[.string s0] W fun e w' => e = .returned (hv m) ∧ Only NoneOf W w' := fun W => by
          have h := rleaf_any s0 W (hsh s0 (List.mem_of_getElem? hs0))
          rw [em, hL]; exact h
        have HLEAF := Lib.hid hleaf
        have HC0 := Lib.hid hc0
        clear hleaf em hml hsh hs hA hS0 eB h0 hf hm hs0 hc0 hL h1
        go_enter Tryz.func42, Tryz.ntmps42
        go_upto_region 1 with (fail)
        rw [← EB.out]
        refine wp_gen (RtS w B (.slice (some ⟨g, o, none⟩) L.length cap) L) HS0.out ?_
        intro Z hZ
        have c0 : Z.cell? ⟨g, o, none⟩ = some (.string s0) := hZ.only.cell_some HC0.out (fun e => e)
        have HZ := Lib.hid hZ
        clear hZ HS0
        go_wp2_with fail
        refine (HLEAF.out _).mono ?_
        rintro e1 w1 ⟨rfl, ho1⟩
        have hb1 := HZ.out.keep ho1
        have hst := ha_store hb1.r rfl HML.out
        have HB2 := Lib.hid (hb1.r.put rfl HML.out)
        have HO2 := Lib.hid (only_setCells hb1.only B 0 (.inr (by have := EB.out; omega)) (m.map bv))
        clear hb1 ho1 c0
        go_wp2_with fail
        refine bodyPost_ret (v := hv m) (results_blk rfl rfl HB2.out Tryz.underlying35 rfl (ha_info HML.out)) rfl ⟨rfl, HO2.out⟩
      · have d1 : ((L.length : Int) == 1) = false := by rw [beq_eq_false_iff_ne]; omega
        have hsp := halfN_spec (n := L.length) (by omega) (by omega)
        obtain ⟨k, ek⟩ : ∃ k, k = halfN L.length := ⟨_, rfl⟩
        rw [← ek] at hsp
        obtain ⟨f', rfl⟩ : ∃ f', f = f' + 1 := ⟨f - 1, by omega⟩
        obtain ⟨a, ea⟩ : ∃ a, a = rootL (txs (L.take k)) := ⟨_, rfl⟩
        obtain ⟨b, eb⟩ : ∃ b, b = rootL (txs (L.drop k)) := ⟨_, rfl⟩
        have hab : m = nodeL a b := by
          rw [em, rootL_two (l := txs L) (by rw [txs_len]; omega) (by rw [txs_len]; omega), txs_len, ← ek, ea, eb]
          unfold txs
          rw [List.map_take, List.map_drop]
        have hhalf : ∀ W, Calls Tryz.prog 60 #[.int .i64 (L.length : Int)] W fun e w' => e = .returned (.int .i64 (k : Int)) ∧ w' = W := fun W => by rw [ek]; exact rhalf_any L.length (by omega) (by omega) W
        have r1 : ∀ W, StSl W (.slice (some ⟨g, o, none⟩) L.length cap) L → Calls Tryz.prog 42 #[.slice (some ⟨g, o, none⟩) k cap] W fun e w' => e = .returned (hv a) ∧ Only NoneOf W w' := fun W h => by
          rw [ea]
          exact rroot_any f' (L.take k) (by rw [List.length_take]; omega) (by rw [List.length_take]; omega) (fun s h => hsh s (List.mem_of_mem_take h)) _ W (h.take (by omega))
        have r2 : ∀ W, StSl W (.slice (some ⟨g, o, none⟩) L.length cap) L → Calls Tryz.prog 42 #[.slice (some ⟨g, o + k, none⟩) (L.length - k) (cap - k)] W fun e w' => e = .returned (hv b) ∧ Only NoneOf W w' := fun W h => by
          rw [eb]
          exact rroot_any f' (L.drop k) (by rw [List.length_drop]; omega) (by rw [List.length_drop]; omega) (fun s h => hsh s (List.mem_of_mem_drop h)) _ W (h.drop (by omega))
        have r3 : ∀ W, Calls Tryz.prog 73 #[hv a, hv b] W fun e w' => e = .returned (hv m) ∧ Only NoneOf W w' := fun W => by rw [hab]; exact rnode_any a b (by rw [ea]; exact rootL_len _) (by rw [eb]; exact rootL_len _) W
        have HH := Lib.hid hhalf
        have R1 := Lib.hid r1
        have R2 := Lib.hid r2
        have R3 := Lib.hid r3
        have ik0 : (0 : Int) ≤ (k : Int) := by omega
        have ik1 : (k : Int) ≤ (cap : Int) := by omega
        have ik2 : (k : Int) ≤ (L.length : Int) := by omega
        have il : (L.length : Int) ≤ (cap : Int) := by omega
        have nk : ¬ cap = k := by omega
        clear hhalf r1 r2 r3 ea eb ek em hab hml hsh hs hA hS0 eB h0 h1 hf hs0 hc0
        go_enter Tryz.func42, Tryz.ntmps42
        go_upto_region 1 with (fail)
        rw [← EB.out]
        refine wp_gen (RtS w B (.slice (some ⟨g, o, none⟩) L.length cap) L) HS0.out ?_
        intro Z hZ
        have HZ := Lib.hid hZ
        clear hZ HS0
        go_wp2_with fail
        refine (HH.out _).mono ?_
        rintro e1 w1 ⟨rfl, rfl⟩
        go_upto_region 6 with (fail)
        obtain ⟨ft, hfx⟩ := family (RtS w B (.slice (some ⟨g, o, none⟩) L.length cap) L) (HZ.out.keep (Only.refl _ _).drew)
        obtain ⟨F, hI, hF0, hF, hFS⟩ := hfx
        have D1 : Hid (∀ x, Calls Tryz.prog 42 #[.slice (some ⟨g, o, none⟩) k cap] (F x) fun e w' => e = .returned (hv a) ∧ ∃ y, w' = F y) := Lib.hid (fun x => (R1.out _ (hFS x).l).mono (fun e w' hh => ⟨hh.1, (hF w').1 ((hFS x).keep hh.2)⟩))
        have D2 : Hid (∀ x, Calls Tryz.prog 42 #[.slice (some ⟨g, o + k, none⟩) (L.length - k) (cap - k)] (F x) fun e w' => e = .returned (hv b) ∧ ∃ y, w' = F y) := Lib.hid (fun x => (R2.out _ (hFS x).l).mono (fun e w' hh => ⟨hh.1, (hF w').1 ((hFS x).keep hh.2)⟩))
        have D3 : Hid (∀ x, Calls Tryz.prog 73 #[hv a, hv b] (F x) fun e w' => e = .returned (hv m) ∧ ∃ y, w' = F y) := Lib.hid (fun x => (R3.out _).mono (fun e w' hh => ⟨hh.1, (hF w').1 ((hFS x).keep hh.2)⟩))
        have HF := Lib.hid hF
        have HF0 := Lib.hid hF0
        clear hF hF0 hFS R1 R2 R3
        refine wp_region_family_tail F 9 (by kernel_rfl) (by kernel_rfl) HF0.out ?_
        simp only [List.take_succ_cons, List.take_zero, List.drop_succ_cons, List.drop_zero]
        repeat (go_big_quiet_step (first | (with_reducible exact D1.out _) | (with_reducible exact D2.out _) | (with_reducible exact D3.out _)))
        refine wpQuiet_nil ?_
        intro w9 hw9
        have hS9 := (HF.out w9).2 hw9
        have hst := ha_store hS9.r rfl HML.out
        have HB2 := Lib.hid (hS9.r.put rfl HML.out)
        have HO2 := Lib.hid (only_setCells hS9.only B 0 (.inr (by have := EB.out; omega)) (m.map bv))
        clear hw9 hS9
        go_wp2_with fail
        refine bodyPost_ret (v := hv m) (results_blk rfl rfl HB2.out Tryz.underlying35 rfl (ha_info HML.out)) rfl ⟨rfl, HO2.out⟩
  termination_by f => f
set_option maxRecDepth 100000 in
set_option maxHeartbeats 2000000 in
theorem troot_nil (w : World) : Calls Tryz.prog 79 #[.slice none 0 0] w fun e w' => e = .returned (hv (rootL [])) ∧ Only NoneOf w w' := by
  obtain ⟨m, em⟩ : ∃ m, m = rootL [] := ⟨_, rfl⟩
  have hml : m.length = 32 := by rw [em]; exact rootL_len _
  rw [← em]
  have hsum : ∀ W, Calls Tryz.prog 80 #[.string ⟨#[]⟩] W fun e w' => e = .returned (hv m) ∧ Only NoneOf W w' := fun W => by
    rw [em]; exact sum_any ⟨#[]⟩ W (by decide)
  have hS0 := RtS.new (StSl.nil w)
  obtain ⟨B, eB⟩ : ∃ B, B = w.heap.size := ⟨_, rfl⟩
  rw [← eB] at hS0
  have HS0 := Lib.hid hS0
  have EB := Lib.hid eB
  have HSUM := Lib.hid hsum
  have HML := Lib.hid hml
  clear hsum em hml hS0 eB
  go_enter Tryz.func79, Tryz.ntmps79
  go_upto_region 1 with (fail)
  rw [← EB.out]
  refine wp_gen (RtS w B (.slice none 0 0) []) HS0.out ?_
  intro Z hZ
  have HZ := Lib.hid hZ
  clear hZ HS0
  go_wp2_with fail
  refine (HSUM.out _).mono ?_
  rintro e1 w1 ⟨rfl, ho1⟩
  have hb1 := HZ.out.keep ho1
  have hst := ha_store hb1.r rfl HML.out
  have HB2 := Lib.hid (hb1.r.put rfl HML.out)
  have HO2 := Lib.hid (only_setCells hb1.only B 0 (.inr (by have := EB.out; omega)) (m.map bv))
  clear hb1 ho1
  go_wp2_with fail
  refine bodyPost_ret (v := hv m) (results_blk rfl rfl HB2.out Tryz.underlying35 rfl (ha_info HML.out)) rfl ⟨rfl, HO2.out⟩
end Go.Proofs.YtgalfohobgjelaaGreatDoor
namespace Go.Proofs.YtgalfohobgjelaaGreatDoor
open Go.RowKit Go.Shelf
def hbC (h : Hs) : List Value := h.map bv
theorem hbC_one (h : Hs) : ∀ u ∈ hbC h, u.oneCell' = true := bvs_one h
def HsOk (L : List Hs) : Prop := ∀ h ∈ L, h.length = 32
/-- A slice that reads as these hashes. -/
def HaSl (w : World) (v : Value) (L : List Hs) : Prop :=
  ∃ A cap, v = .slice A L.length cap ∧ L.length ≤ cap ∧ cap ≤ 9223372036854775807 ∧ ∀ (i : Nat) (h : Hs), L[i]? = some h → ∃ g o, A = some ⟨g, o, none⟩ ∧ g < w.heap.size ∧ w.rangeAt g (o + i * 32) (hbC h)
theorem HaSl.only {w w' : World} {v : Value} {L : List Hs} (h : HaSl w v L) (ho : Only NoneOf w w') : HaSl w' v L := by
  obtain ⟨A, cap, hv, h1, h2, h3⟩ := h
  refine ⟨A, cap, hv, h1, h2, fun i p hp => ?_⟩
  obtain ⟨g, o, hA, hg, hr⟩ := h3 i p hp
  exact ⟨g, o, hA, Nat.lt_of_lt_of_le hg ho.size, rng_only hr ho⟩
theorem HaSl.nil (w : World) : HaSl w (.slice none 0 0) [] := ⟨none, 0, rfl, Nat.le_refl _, by omega, fun i s h => by simp at h⟩
/-- Hashes that the call made. -/
def HaOwn (w : World) (base : Nat) (v : Value) (n : Nat) (L : List Hs) : Prop := w.ownsRow base 35 32 v n (L.flatMap hbC)
theorem hbs_get : ∀ (L : List Hs) (_ : HsOk L) (i j : Nat) (_ : j < 32) (p : Hs) (_ : L[i]? = some p), (L.flatMap hbC)[i * 32 + j]? = (hbC p)[j]?
  | [], _, _, _, _, _, h => by simp at h
  | x :: l, hf, i, j, hj, p, hp => by
    have hx : (hbC x).length = 32 := by unfold hbC; rw [List.length_map]; exact hf x (by simp)
    cases i with
    | zero =>
      simp at hp; subst hp
      simp only [List.flatMap_cons, Nat.zero_mul, Nat.zero_add]
      rw [List.getElem?_append_left (by rw [hx]; exact hj)]
    | succ i =>
      simp only [List.flatMap_cons]
      rw [List.getElem?_append_right (by rw [hx]; omega), hx, show (i + 1) * 32 + j - 32 = i * 32 + j by omega]
      exact hbs_get l (fun q hq => hf q (by simp [hq])) i j hj p (by simpa using hp)
theorem HaOwn.sl {w : World} {base : Nat} {v : Value} {L : List Hs} (h : HaOwn w base v L.length L) (hok : HsOk L) : HaSl w v L := by
  rcases h.2 with ⟨rfl, h0⟩ | ⟨g, cap, cur, rfl, hb, hh, hc, hm, hs, ht⟩
  · have hP0 : L = [] := List.eq_nil_of_length_eq_zero h0
    subst hP0
    exact HaSl.nil w
  · rw [maxLen_val] at hm
    refine ⟨some ⟨g, 0, none⟩, cap, rfl, hc, hm, fun i p hp => ⟨g, 0, rfl, Blk.lt (t := 35) hh, fun j x hj => ?_⟩⟩
    have hj2 : j < 32 := by
      have := (List.getElem?_eq_some_iff.1 hj).1
      unfold hbC at this
      rwa [List.length_map, hok p (List.mem_of_getElem? hp)] at this
    have h1 := hbs_get L hok i j hj2 p hp
    have h2 := World.ownsRow.cells h rfl (i * 32 + j) x (h1.trans hj)
    rw [Addr.add_mid, Nat.zero_add] at h2
    rw [Nat.zero_add]
    exact h2
theorem HaOwn.nil (w : World) (base : Nat) : HaOwn w base (.slice none 0 0) 0 [] := ⟨rfl, .inl ⟨rfl, rfl⟩⟩
theorem own_lower {w : World} {base base' : Nat} {e : TypeId} {size n : Nat} {v : Value} {xs : List Value} (h : w.ownsRow base e size v n xs) (hb : base' ≤ base) : w.ownsRow base' e size v n xs := by
  refine ⟨h.1, ?_⟩
  rcases h.2 with h0 | ⟨g, cap, cur, h1, h2, h3⟩
  · exact .inl h0
  · exact .inr ⟨g, cap, cur, h1, Nat.le_trans hb h2, h3⟩
theorem hash_info : ∃ ie z, Tryz.prog.info? 35 = some ie ∧ ie.size = 32 ∧ ie.zero = some z ∧ z.cells.size = 32 ∧ ie.bytes ≤ 100 := by
  have h1 : (Tryz.prog.info? 35).map (·.size) = some 32 := by kernel_rfl
  have h2 : ((Tryz.prog.info? 35).bind (·.zero)).isSome = true := by kernel_rfl
  have h3 : (Tryz.prog.info? 35).map (fun i => decide (i.bytes ≤ 100)) = some true := by kernel_rfl
  have h4 : ((Tryz.prog.info? 35).bind (·.zero)).map (fun z => z.cells.size) = some 32 := by kernel_rfl
  cases hie : Tryz.prog.info? 35 with
  | none => simp [hie] at h1
  | some ie =>
    simp only [hie, Option.map_some, Option.some.injEq, Option.bind_some, decide_eq_true_eq] at h1 h2 h3 h4
    obtain ⟨z, hz⟩ := Option.isSome_iff_exists.1 h2
    simp only [hz, Option.map_some, Option.some.injEq] at h4
    exact ⟨ie, z, rfl, h1, hz, h4, h3⟩
/-- A slice literal of one hash. -/
def haBs1 (parts : Array (Nat × Value)) : Sem Value := Instr.buildSlice 59 1 parts
theorem haBs1_eq (parts : Array (Nat × Value)) : Instr.buildSlice 59 1 parts = haBs1 parts := rfl
theorem haBs1_run (h : Hs) (hl : h.length = 32) (W : World) : (haBs1 #[(0, hv h)]).run Tryz.prog W = .ok (.slice (some ⟨W.heap.size, 0, none⟩) 1 1) (W.alloc (.cells (h.map bv).toArray 35)) := by
  obtain ⟨ie, z, hie, hsz, hz, hzc, hby⟩ := hash_info
  have h32 : (h.map bv).length = 32 := by rw [List.length_map, hl]
  have e : ([hv h].flatMap fun u => u.cells.toList).toArray = (h.map bv).toArray := by simp [Value.cells, hv]
  have h9 : ∀ C : Array Value, C.size = 32 → Instr.fill (fun i => some (i * 32, 32)) C [(0, hv h)] = some (h.map bv).toArray := fun C hC => by
    have h8 := Great.fill_whole (s := 32) (by omega) [hv h] C (by intro u hu; simp only [List.mem_cons, List.not_mem_nil, or_false] at hu; subst hu; show (h.map bv).toArray.size = 32; rw [List.size_toArray, h32]) (by rw [hC]; rfl)
    rw [e] at h8
    exact h8
  exact run_buildSlice (P := Tryz.prog) W 59 35 1 #[(0, hv h)] (h.map bv).toArray ie z Tryz.underlying59 hie hz (by rw [hsz]; omega) (by rw [hsz]; omega) (by rw [hsz]; exact h9 _ (by simp))
theorem newH (W : World) (h : Hs) : (W.alloc (.cells (h.map bv).toArray 35)).heap[W.heap.size]? = some (.cells (h.map bv).toArray 35 (0, 0)) := Blk.new W _ _
end Go.Proofs.YtgalfohobgjelaaGreatDoor
namespace Go.Proofs.YtgalfohobgjelaaGreatDoor
open Go.RowKit Go.Shelf
theorem depthF_le : ∀ (f i n : Nat), depthF f i n ≤ f
  | 0, _, _ => Nat.le_refl _
  | f + 1, i, n => by
    unfold depthF
    have h1 := depthF_le f i (halfN n)
    have h2 := depthF_le f (i - halfN n) (n - halfN n)
    split
    · omega
    · split <;> omega
end Go.Proofs.YtgalfohobgjelaaGreatDoor
