/- What is proved here: the reference finds two different strings with one sum. Conditions: the strings are short. -/
import Derived.Test.YtclpebgjmgfigaaGreatDoorLnk
namespace Go.Proofs.YtclpebgjmgfigaaGreatDoor
open Go.RowKit Go.Shelf
attribute [local go_sem ↓ high] hLoad_eq
attribute [local go_sem ↓] eql_hash
abbrev tHash : TypeId := 25
/-- k times the same hash, in a slice that the call made. -/
def HsOwn (w : World) (base : Nat) (v : Value) (k : Nat) (h : List UInt8) : Prop := w.ownsRow base tHash 32 v k ((List.replicate k h).flatMap fun l => l.map bv)
theorem hash_info3 : ∃ ie z, Tryz.prog.info? tHash = some ie ∧ ie.size = 32 ∧ ie.zero = some z ∧ z.cells.size = 32 ∧ ie.bytes ≤ 1000 := by
  have h1 : (Tryz.prog.info? tHash).map (·.size) = some 32 := by kernel_rfl
  have h2 : ((Tryz.prog.info? tHash).bind (·.zero)).isSome = true := by kernel_rfl
  have h3 : (Tryz.prog.info? tHash).map (fun i => decide (i.bytes ≤ 1000)) = some true := by kernel_rfl
  have h4 : ((Tryz.prog.info? tHash).bind (·.zero)).map (fun z => z.cells.size) = some 32 := by kernel_rfl
  cases hie : Tryz.prog.info? tHash with
  | none => simp [hie] at h1
  | some ie =>
    simp only [hie, Option.map_some, Option.some.injEq, Option.bind_some] at h1 h2 h3 h4
    obtain ⟨z, hz⟩ := Option.isSome_iff_exists.1 h2
    simp only [hz, Option.map_some, Option.some.injEq, decide_eq_true_eq] at h3 h4
    exact ⟨ie, z, rfl, h1, hz, h4, h3⟩
def hOne (h : List UInt8) : List Value := [Value.agg (h.map bv).toArray].flatMap fun v => v.cells.toList
theorem hOne_eq (h : List UInt8) : hOne h = h.map bv := by simp [hOne, Value.cells]
theorem hs_range {w : World} {base g cap k : Nat} {h : List UInt8} (ho : HsOwn w base (.slice (some ⟨g, 0, none⟩) k cap) k h) (hl : h.length = 32) {i : Nat} (hi : i < k) : w.rangeAt g (i * 32) (h.map bv) := fun j x hj => by
  have hj2 : j < 32 := by
    have := (List.getElem?_eq_some_iff.1 hj).1
    rw [List.length_map, hl] at this; exact this
  have h1 := flat_getM (List.replicate k h) (f := fun l => l.map bv) (s := 32) (fun p hp => by rw [(List.mem_replicate.1 hp).2, List.length_map, hl]) i j hj2 h (by simp [hi])
  have h2 := World.ownsRow.cells ho rfl (i * 32 + j) x (h1.trans hj)
  rw [Addr.add_mid, Nat.zero_add] at h2
  exact h2
set_option maxRecDepth 100000 in
set_option maxHeartbeats 2000000 in
theorem rclash_yes (a b : ByteArray) (ha : a.size ≤ 35184372088832) (hb : b.size ≤ 35184372088832) (hne : a.data.toList ≠ b.data.toList) (heq : shaL a.data.toList = shaL b.data.toList) (g : Nat) (w : World) (hs : StrsAt w g 0 [a, b]) :
    Calls Tryz.prog 23 #[.slice (some ⟨g, 0, none⟩) 2 2] w fun e w' => e = .returned (.bool true) ∧ Only NoneOf w w' := by
  obtain ⟨ie, z, hie, hsz, hz, hzc, hby⟩ := hash_info3
  obtain ⟨h, eh⟩ : ∃ h, h = shaL a.data.toList := ⟨_, rfl⟩
  have hl : h.length = 32 := by rw [eh]; exact shaL_len _
  have f1 : ∀ W, Calls Tryz.prog 38 #[.string a] W fun e w' => e = .returned (.agg (h.map bv).toArray) ∧ Only NoneOf W w' := fun W => by rw [eh]; exact rsum_any a W ha
  have f2 : ∀ W, Calls Tryz.prog 38 #[.string b] W fun e w' => e = .returned (.agg (h.map bv).toArray) ∧ Only NoneOf W w' := fun W => by rw [eh, heq]; exact rsum_any b W hb
  have c0 : ∀ W, Only NoneOf w W → W.cell? ⟨g, 0, none⟩ = some (.string a) := fun W ho => ho.cell_some (hs 0 a rfl) (fun e => e)
  have c1 : ∀ W, Only NoneOf w W → W.cell? ⟨g, 1, none⟩ = some (.string b) := fun W ho => ho.cell_some (hs 1 b rfl) (fun e => e)
  have hq : (a.toList == b.toList) = false := by
    rw [Lib.toList_data, Lib.toList_data]; exact beq_eq_false_iff_ne.2 hne
  have zh := fun W => eql_hash h h hl hl W
  rw [show (h == h) = true from by simp] at zh
  have F1 := Lib.hid f1
  have F2 := Lib.hid f2
  have C0 := Lib.hid c0
  have C1 := Lib.hid c1
  have HL := Lib.hid hl
  have HIE := Lib.hid hie
  have HSZ := Lib.hid hsz
  have HZ := Lib.hid hz
  have HZC := Lib.hid hzc
  have HBY := Lib.hid hby
  have HQ := Lib.hid hq
  have ZH := Lib.hid zh
  clear hie hsz hz hzc hby eh hl f1 f2 c0 c1 hq zh heq hne hs
  go_enter Tryz.func23, Tryz.ntmps23
  go_wp2_with fail
  go_loopw [3, 4] (fun v i wr => ∃ k : Nat, i = .int .i64 k ∧ k ≤ 1 ∧ HsOwn wr w.heap.size v k h ∧ Only NoneOf w wr) (fun _ i _ => 2 - (intOf i).toNat)
  case atStart => exact ⟨0, rfl, by omega, ⟨rfl, .inl ⟨rfl, rfl⟩⟩, Only.refl _ _⟩
  case round =>
    obtain ⟨k, rfl, hk, hown, ho⟩ := hrel
    have hk2 : k = 0 ∨ k = 1 := by omega
    have HO := Lib.hid ho
    have HOWN := Lib.hid hown
    clear ho hown
    rcases hk2 with rfl | rfl
    · have q0 := C0.out _ HO.out
      go_wp2_with fail
      refine (F1.out _).mono ?_
      rintro e1 w1 ⟨rfl, ho1⟩
      clear q0
      have HO1 := Lib.hid (HO.out.trans ho1)
      have HOW1 := Lib.hid (own_only HOWN.out ho1 (fun _ _ e => e))
      clear ho1
      have hnews : ∀ j u, (h.map bv)[j]? = some u → (w1.alloc (.cells (hOne h).toArray tHash)).cell? (Addr.add ⟨w1.heap.size, 0, none⟩ j) = some u := by
        intro j u hj
        rw [hOne_eq, Addr.add_mid, Nat.zero_add, (Blk.new w1 tHash (h.map bv).toArray).cell]
        simpa using hj
      have hbase : w.heap.size ≤ (w1.alloc (.cells (hOne h).toArray tHash)).heap.size := (HO1.out.alloc _).size
      have h32 : (h.map bv).length = 1 * 32 := by rw [List.length_map, HL.out]
      have hbb : (0 + 1) * ie.bytes ≤ 140737488355328 := by have := HBY.out; omega
      have HNEWS := Lib.hid hnews
      have HBASE := Lib.hid hbase
      have H32 := Lib.hid h32
      have HBB := Lib.hid hbb
      clear hnews hbase h32 hbb
      go_wp2_with (first
        | (refine wpList_buildSlice rfl 88 tHash 1 _ rfl (hOne h).toArray ie z Tryz.underlying88 HIE.out HZ.out (by rw [HSZ.out]; omega) (by rw [HSZ.out]; omega) (by rw [HSZ.out, Array.toList_map]; exact Great.fill_whole (by omega) [Value.agg (h.map bv).toArray] _ (by intro v hv; rw [List.mem_singleton] at hv; subst hv; show (h.map bv).toArray.size = 32; rw [List.size_toArray, List.length_map, HL.out]) (by simp)) ?_)
        | (at_builtin; refine wpList_append_own _ rfl _ _ 88 rfl w.heap.size tHash ie z 32 ie.bytes Tryz.underlying88 HIE.out HZ.out HSZ.out rfl HZC.out (by decide) u3 0 _ rfl (HOW1.out.alloc _) ⟨w1.heap.size, 0, none⟩ 1 1 (h.map bv) rfl H32.out HNEWS.out (bvs_one _) (by rw [maxLen_val]; omega) HBB.out HBASE.out ?_; intro v' w5 hown5 hgrow _))
      have hown6 : HsOwn w5 w.heap.size v' 1 h := by
        unfold HsOwn
        simpa using hown5
      have HN := Lib.hid hown6
      have HO5 := Lib.hid ((HO1.out.alloc _).grown hgrow (fun j e => .inr (own_ge HOW1.out e).1))
      clear hown5 hown6 hgrow HOWN HOW1 HNEWS
      go_loopw [5] (fun j W => j = .int .i64 0 ∧ W = w5) (fun _ _ => 0)
      case atStart => exact ⟨rfl, rfl⟩
      case round =>
        obtain ⟨rfl, rfl⟩ := hrel
        go_wp2_with fail
        go_roundw
        case rel => exact ⟨1, by go_num, by omega, HN.out, HO5.out⟩
        case measure => simp [intOf]
    · have q0 := C1.out _ HO.out
      go_wp2_with fail
      refine (F2.out _).mono ?_
      rintro e1 w1 ⟨rfl, ho1⟩
      clear q0
      have HO1 := Lib.hid (HO.out.trans ho1)
      have HOW1 := Lib.hid (own_only HOWN.out ho1 (fun _ _ e => e))
      clear ho1
      have hnews : ∀ j u, (h.map bv)[j]? = some u → (w1.alloc (.cells (hOne h).toArray tHash)).cell? (Addr.add ⟨w1.heap.size, 0, none⟩ j) = some u := by
        intro j u hj
        rw [hOne_eq, Addr.add_mid, Nat.zero_add, (Blk.new w1 tHash (h.map bv).toArray).cell]
        simpa using hj
      have hbase : w.heap.size ≤ (w1.alloc (.cells (hOne h).toArray tHash)).heap.size := (HO1.out.alloc _).size
      have h32 : (h.map bv).length = 1 * 32 := by rw [List.length_map, HL.out]
      have hbb : (1 + 1) * ie.bytes ≤ 140737488355328 := by have := HBY.out; omega
      have HNEWS := Lib.hid hnews
      have HBASE := Lib.hid hbase
      have H32 := Lib.hid h32
      have HBB := Lib.hid hbb
      clear hnews hbase h32 hbb
      go_wp2_with (first
        | (refine wpList_buildSlice rfl 88 tHash 1 _ rfl (hOne h).toArray ie z Tryz.underlying88 HIE.out HZ.out (by rw [HSZ.out]; omega) (by rw [HSZ.out]; omega) (by rw [HSZ.out, Array.toList_map]; exact Great.fill_whole (by omega) [Value.agg (h.map bv).toArray] _ (by intro v hv; rw [List.mem_singleton] at hv; subst hv; show (h.map bv).toArray.size = 32; rw [List.size_toArray, List.length_map, HL.out]) (by simp)) ?_)
        | (at_builtin; refine wpList_append_own _ rfl _ _ 88 rfl w.heap.size tHash ie z 32 ie.bytes Tryz.underlying88 HIE.out HZ.out HSZ.out rfl HZC.out (by decide) u3 1 _ rfl (HOW1.out.alloc _) ⟨w1.heap.size, 0, none⟩ 1 1 (h.map bv) rfl H32.out HNEWS.out (bvs_one _) (by rw [maxLen_val]; omega) HBB.out HBASE.out ?_; intro v' w5 hown5 hgrow _))
      have hown6 : HsOwn w5 w.heap.size v' 2 h := by
        unfold HsOwn
        simpa [List.replicate] using hown5
      obtain ⟨g2, cap, rfl, _, _, hc1, hc2⟩ := own_form hown6 (by omega)
      rw [maxLen_val] at hc2
      have zl : ∀ q, (hLoad (.pointer (some ⟨g2, 0, none⟩))).run Tryz.prog (w5.drewN q) = .ok (.agg (h.map bv).toArray) (w5.drewN q) := fun q => h_load (by have := hs_range hown6 HL.out (show 0 < 2 by omega); rw [Nat.zero_mul] at this; exact range_only this ((Only.refl _ _).drewN q)) HL.out
      have zr : ∀ q, (hLoad (.pointer (some ⟨g2, 32, none⟩))).run Tryz.prog (w5.drewN q) = .ok (.agg (h.map bv).toArray) (w5.drewN q) := fun q => h_load (by have := hs_range hown6 HL.out (show 1 < 2 by omega); rw [Nat.one_mul] at this; exact range_only this ((Only.refl _ _).drewN q)) HL.out
      have ho5 := (HO1.out.alloc _).grown hgrow (fun j e => .inr (own_ge HOW1.out e).1)
      have d0 := C0.out _ ho5
      have d1 := C1.out _ ho5
      have HO5 := Lib.hid ho5
      clear hown5 hown6 hgrow HOWN HOW1 HNEWS ho5
      go_loopw [5] (fun j W => j = .int .i64 0 ∧ W = w5) (fun _ _ => 0)
      case atStart => exact ⟨rfl, rfl⟩
      case round =>
        obtain ⟨rfl, rfl⟩ := hrel
        have zh := ZH.out
        have hq := HQ.out
        go_upto_region 9 with (fail)
        go_quiet (fail)
        go_wp2_with fail
        go_ret
        exact ⟨rfl, HO5.out.drewN _⟩
end Go.Proofs.YtclpebgjmgfigaaGreatDoor
