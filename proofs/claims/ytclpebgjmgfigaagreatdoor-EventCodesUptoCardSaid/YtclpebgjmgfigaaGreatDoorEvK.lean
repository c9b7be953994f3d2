/- What is proved here: the law package's own check answers true. Conditions: the library's variables hold what their initialisers lay; memory has its shape. -/
import Derived.Test.YtclpebgjmgfigaaGreatDoorEvJ
import Derived.Great.BuildSlice
namespace Go.Proofs.YtclpebgjmgfigaaGreatDoor
open Go.RowKit Go.Shelf
attribute [local go_sem ↓ high] evStore_eq evLoad_eq
/-- What a call finds in the library's variables. -/
structure Env3 (w : World) : Prop where
  tab : Tab w
  shp : w.ShapedOpen Tryz.prog
theorem Env3.none {w w' : World} (h : Env3 w) (ho : Only NoneOf w w') : Env3 w' :=
  ⟨h.tab.none ho, h.shp.keptBut ((Only.below ho (Nat.le_refl _) (fun _ e => e.elim)).frame (fun _ => False)) (fun _ e => e.elim)⟩
def evX : Ev := ⟨1, 0, 0, 0, 0, 0, 0, 0, ⟨#[97]⟩, ⟨#[98, 32, 99]⟩, 0, 0, zeros32, 0, 0⟩
theorem in0 : In 0 := ⟨by omega, by omega⟩
theorem in1 : In 1 := ⟨by omega, by omega⟩
theorem blank0_ok : blank0.Ok := ⟨in0, in0, in0, in0, in0, in0, in0, in0, in0, in0, rfl, in0, in0⟩
theorem evX_ok : evX.Ok := ⟨in1, in0, in0, in0, in0, in0, in0, in0, in0, in0, rfl, in0, in0⟩
def zerosN (n : Nat) : ByteArray := ⟨(List.replicate n 48).toArray⟩
theorem zerosN_size (n : Nat) : (zerosN n).size = n := by rw [size_list]; simp [zerosN]
theorem zerosN_add (n : Nat) : zerosN n ++ zerosN n = zerosN (n + n) := bytes_ext (by rw [ByteArray.data_append]; simp [zerosN])
theorem ev_info : ∃ ie z, Tryz.prog.info? tEv = some ie ∧ ie.size = 46 ∧ ie.zero = some z := by
  have h1 : (Tryz.prog.info? tEv).map (·.size) = some 46 := by kernel_rfl
  have h2 : ((Tryz.prog.info? tEv).bind (·.zero)).isSome = true := by kernel_rfl
  cases hie : Tryz.prog.info? tEv with
  | none => simp [hie] at h1
  | some ie =>
    simp only [hie, Option.map_some, Option.some.injEq, Option.bind_some] at h1 h2
    obtain ⟨z, hz⟩ := Option.isSome_iff_exists.1 h2
    exact ⟨ie, z, rfl, h1, hz⟩
def evTwo (e f : Ev) : List Value := [Value.agg (evC e).toArray, Value.agg (evC f).toArray].flatMap fun v => v.cells.toList
theorem evTwo_sl (w : World) (e f : Ev) (he : e.prev.length = 32) (hf : f.prev.length = 32) : EvSl (w.alloc (.cells (evTwo e f).toArray tEv)) (.slice (some ⟨w.heap.size, 0, none⟩) 2 2) [e, f] := by
  have hb := Blk.new w tEv (evTwo e f).toArray
  have ht : evTwo e f = evC e ++ evC f := by
    show (evC e).toArray.toList ++ ((evC f).toArray.toList ++ []) = _
    simp
  have l1 := evC_len he
  have l2 := evC_len hf
  refine ⟨_, 2, rfl, Nat.le_refl _, by omega, fun i x hx => ⟨w.heap.size, 0, rfl, hb.lt, fun j v hj => ?_⟩⟩
  rw [hb.cell, ht, List.getElem?_toArray]
  match i, hx with
  | 0, hx =>
    cases hx
    have hjl : j < (evC e).length := (List.getElem?_eq_some_iff.1 hj).1
    rw [List.getElem?_append_left (by omega)]
    rw [show 0 + 0 * 46 + j = j from by omega]; exact hj
  | 1, hx =>
    cases hx
    rw [List.getElem?_append_right (by omega), l1]
    rw [show 0 + 1 * 46 + j - 46 = j from by omega]; exact hj
theorem text_blank : (⟨#[101, 118, 101, 110, 116, 32, 48, 32, 48, 32, 48, 32, 48, 32, 48, 32, 48, 32, 48, 32, 48, 32, 48, 32, 48, 32]⟩ ++ zerosN 64 ++ ⟨#[32, 48, 58, 32, 48, 58]⟩ : ByteArray).data.toList = evText blank0 := by decide +kernel
theorem code_evX : (⟨#[48, 32, 48, 32, 101, 118, 101, 110, 116, 32, 49, 32, 48, 32, 48, 32, 48, 32, 48, 32, 48, 32, 48, 32, 48, 32, 48, 32, 48, 32]⟩ ++ zerosN 64 ++ ⟨#[32, 49, 58, 97, 32, 51, 58, 98, 32, 99]⟩ : ByteArray).data.toList = evCode evX := by decide +kernel
theorem chain_two : chainL [blank0, blank0] = (1, 1) := by
  unfold chainL
  rw [chainGo_cons (k := 0) (last := zeros32) (pt := 0) (e := blank0) (l := [blank0]) (by omega) rfl rfl (fun h => by omega)]
  rw [chainGo, if_neg (by omega), if_pos (by simp [blank0])]
set_option maxRecDepth 100000 in
set_option maxHeartbeats 2000000 in
theorem sanity_any (w : World) (he : Env3 w) : Calls Tryz.prog 10 #[] w fun e w' => e = .returned (.bool true) ∧ Only NoneOf w w' := by
  have HE := Lib.hid he
  clear he
  have tok : True := trivial
  go_enter Tryz.func10, Tryz.ntmps10
  go_wp2_with (have _t := tok; refine wpList_convert_back rfl 39 9 5 (.tmp 8) rfl w.heap.size 0 1 1 rfl [48] rfl (bytesAt_one _ _ _ _ rfl) Tryz.underlying39 Tryz.underlying5 Tryz.underlying9 ?_; clear tok _t)
  refine wp_gen (fun Y => Only NoneOf w Y) ((Only.refl _ _).alloc _) ?_
  intro Y hY
  have HY := Lib.hid hY
  clear hY
  go_loop [1] (fun v => ∃ j : Nat, j ≤ 6 ∧ v = .string (zerosN (2 ^ j))) (fun v => match v with | .string s => 64 - s.size | _ => 0)
  case atStart => exact ⟨0, by omega, rfl⟩
  case round =>
    obtain ⟨j, hj, rfl⟩ := hrel
    have hz := zerosN_size (2 ^ j)
    by_cases h6 : j = 6
    · subst h6
      have e64 : zerosN (2 ^ 6) = zerosN 64 := rfl
      rw [e64] at hz ⊢
      have ik : ¬ ((zerosN 64).size : Int) < 64 := by omega
      have hb1 := Blk.new Y tEv (evC blank0).toArray
      have hb2 := Blk.new (Y.alloc (.cells (evC blank0).toArray tEv)) tEv (evC blank0).toArray
      rw [World.size_alloc] at hb2
      have hst : (evStore (.pointer (some ⟨Y.heap.size + 1, 0, none⟩)) (.agg #[.int .i64 1, .int .i64 0, .int .i64 0, .int .i64 0, .int .i64 0, .int .i64 0, .int .i64 0, .int .i64 0, .string ⟨#[97]⟩, .string ⟨#[98, 32, 99]⟩, .int .i64 0, .int .i64 0, .int .u8 0, .int .u8 0, .int .u8 0, .int .u8 0, .int .u8 0, .int .u8 0, .int .u8 0, .int .u8 0, .int .u8 0, .int .u8 0, .int .u8 0, .int .u8 0, .int .u8 0, .int .u8 0, .int .u8 0, .int .u8 0, .int .u8 0, .int .u8 0, .int .u8 0, .int .u8 0, .int .u8 0, .int .u8 0, .int .u8 0, .int .u8 0, .int .u8 0, .int .u8 0, .int .u8 0, .int .u8 0, .int .u8 0, .int .u8 0, .int .u8 0, .int .u8 0, .int .i64 0, .int .i64 0])).run Tryz.prog ((Y.alloc (.cells #[.int .i64 0, .int .i64 0, .int .i64 0, .int .i64 0, .int .i64 0, .int .i64 0, .int .i64 0, .int .i64 0, .string ⟨#[]⟩, .string ⟨#[]⟩, .int .i64 0, .int .i64 0, .int .u8 0, .int .u8 0, .int .u8 0, .int .u8 0, .int .u8 0, .int .u8 0, .int .u8 0, .int .u8 0, .int .u8 0, .int .u8 0, .int .u8 0, .int .u8 0, .int .u8 0, .int .u8 0, .int .u8 0, .int .u8 0, .int .u8 0, .int .u8 0, .int .u8 0, .int .u8 0, .int .u8 0, .int .u8 0, .int .u8 0, .int .u8 0, .int .u8 0, .int .u8 0, .int .u8 0, .int .u8 0, .int .u8 0, .int .u8 0, .int .u8 0, .int .u8 0, .int .i64 0, .int .i64 0] 29)).alloc (.cells #[.int .i64 0, .int .i64 0, .int .i64 0, .int .i64 0, .int .i64 0, .int .i64 0, .int .i64 0, .int .i64 0, .string ⟨#[]⟩, .string ⟨#[]⟩, .int .i64 0, .int .i64 0, .int .u8 0, .int .u8 0, .int .u8 0, .int .u8 0, .int .u8 0, .int .u8 0, .int .u8 0, .int .u8 0, .int .u8 0, .int .u8 0, .int .u8 0, .int .u8 0, .int .u8 0, .int .u8 0, .int .u8 0, .int .u8 0, .int .u8 0, .int .u8 0, .int .u8 0, .int .u8 0, .int .u8 0, .int .u8 0, .int .u8 0, .int .u8 0, .int .u8 0, .int .u8 0, .int .u8 0, .int .u8 0, .int .u8 0, .int .u8 0, .int .u8 0, .int .u8 0, .int .i64 0, .int .i64 0] 29)) = .ok () (((Y.alloc (.cells #[.int .i64 0, .int .i64 0, .int .i64 0, .int .i64 0, .int .i64 0, .int .i64 0, .int .i64 0, .int .i64 0, .string ⟨#[]⟩, .string ⟨#[]⟩, .int .i64 0, .int .i64 0, .int .u8 0, .int .u8 0, .int .u8 0, .int .u8 0, .int .u8 0, .int .u8 0, .int .u8 0, .int .u8 0, .int .u8 0, .int .u8 0, .int .u8 0, .int .u8 0, .int .u8 0, .int .u8 0, .int .u8 0, .int .u8 0, .int .u8 0, .int .u8 0, .int .u8 0, .int .u8 0, .int .u8 0, .int .u8 0, .int .u8 0, .int .u8 0, .int .u8 0, .int .u8 0, .int .u8 0, .int .u8 0, .int .u8 0, .int .u8 0, .int .u8 0, .int .u8 0, .int .i64 0, .int .i64 0] 29)).alloc (.cells #[.int .i64 0, .int .i64 0, .int .i64 0, .int .i64 0, .int .i64 0, .int .i64 0, .int .i64 0, .int .i64 0, .string ⟨#[]⟩, .string ⟨#[]⟩, .int .i64 0, .int .i64 0, .int .u8 0, .int .u8 0, .int .u8 0, .int .u8 0, .int .u8 0, .int .u8 0, .int .u8 0, .int .u8 0, .int .u8 0, .int .u8 0, .int .u8 0, .int .u8 0, .int .u8 0, .int .u8 0, .int .u8 0, .int .u8 0, .int .u8 0, .int .u8 0, .int .u8 0, .int .u8 0, .int .u8 0, .int .u8 0, .int .u8 0, .int .u8 0, .int .u8 0, .int .u8 0, .int .u8 0, .int .u8 0, .int .u8 0, .int .u8 0, .int .u8 0, .int .u8 0, .int .i64 0, .int .i64 0] 29)).setCells (Y.heap.size + 1) 0 (evC evX)) := ev_store (cs := evC blank0) (e := evX) hb2 rfl rfl
      dsimp only at hst
      clear hz
      go_upto_region 6 with (fail)
      have hZ1 : EvAt (((Y.alloc (.cells (evC blank0).toArray tEv)).alloc (.cells (evC blank0).toArray tEv)).setCells (Y.heap.size + 1) 0 (evC evX)) Y.heap.size blank0 := (hb1.alloc _).farCells (by omega) _ 0
      have hZ2 : EvAt (((Y.alloc (.cells (evC blank0).toArray tEv)).alloc (.cells (evC blank0).toArray tEv)).setCells (Y.heap.size + 1) 0 (evC evX)) (Y.heap.size + 1) evX := setCells_own hb2 rfl
      have hZo : Only NoneOf w (((Y.alloc (.cells (evC blank0).toArray tEv)).alloc (.cells (evC blank0).toArray tEv)).setCells (Y.heap.size + 1) 0 (evC evX)) := only_setCells ((HY.out.alloc _).alloc _) _ _ (.inr (by have := HY.out.size; omega)) _
      refine wp_gen (fun Z => EvAt Z Y.heap.size blank0 ∧ EvAt Z (Y.heap.size + 1) evX ∧ Only NoneOf w Z) ⟨hZ1, hZ2, hZo⟩ ?_
      rintro Z ⟨h1, h2, ho⟩
      obtain ⟨a, ea⟩ : ∃ a, a = Y.heap.size := ⟨_, rfl⟩
      rw [← ea] at h1 h2 ⊢
      have H1 := Lib.hid h1
      have H2 := Lib.hid h2
      have HO := Lib.hid ho
      clear hZ1 hZ2 hZo h1 h2 ho hst hb1 hb2 ea
      go_wp2_with fail
      refine (edecode_none Z (HE.out.none HO.out).shp).mono ?_
      rintro e w1 ⟨rfl, ho1⟩
      have hst2 : (evStore (.pointer (some ⟨w1.heap.size, 0, none⟩)) (.agg (evC blank0).toArray)).run Tryz.prog (w1.alloc (.cells #[.int .i64 0, .int .i64 0, .int .i64 0, .int .i64 0, .int .i64 0, .int .i64 0, .int .i64 0, .int .i64 0, .string ⟨#[]⟩, .string ⟨#[]⟩, .int .i64 0, .int .i64 0, .int .u8 0, .int .u8 0, .int .u8 0, .int .u8 0, .int .u8 0, .int .u8 0, .int .u8 0, .int .u8 0, .int .u8 0, .int .u8 0, .int .u8 0, .int .u8 0, .int .u8 0, .int .u8 0, .int .u8 0, .int .u8 0, .int .u8 0, .int .u8 0, .int .u8 0, .int .u8 0, .int .u8 0, .int .u8 0, .int .u8 0, .int .u8 0, .int .u8 0, .int .u8 0, .int .u8 0, .int .u8 0, .int .u8 0, .int .u8 0, .int .u8 0, .int .u8 0, .int .i64 0, .int .i64 0] 29)) = .ok () ((w1.alloc (.cells #[.int .i64 0, .int .i64 0, .int .i64 0, .int .i64 0, .int .i64 0, .int .i64 0, .int .i64 0, .int .i64 0, .string ⟨#[]⟩, .string ⟨#[]⟩, .int .i64 0, .int .i64 0, .int .u8 0, .int .u8 0, .int .u8 0, .int .u8 0, .int .u8 0, .int .u8 0, .int .u8 0, .int .u8 0, .int .u8 0, .int .u8 0, .int .u8 0, .int .u8 0, .int .u8 0, .int .u8 0, .int .u8 0, .int .u8 0, .int .u8 0, .int .u8 0, .int .u8 0, .int .u8 0, .int .u8 0, .int .u8 0, .int .u8 0, .int .u8 0, .int .u8 0, .int .u8 0, .int .u8 0, .int .u8 0, .int .u8 0, .int .u8 0, .int .u8 0, .int .u8 0, .int .i64 0, .int .i64 0] 29)).setCells w1.heap.size 0 (evC blank0)) := ev_store (cs := evC blank0) (e := blank0) (Blk.new w1 _ _) rfl rfl
      dsimp only at hst2
      have K1 := Lib.hid (H1.out.only ho1 (fun e => e))
      have K2 := Lib.hid (H2.out.only ho1 (fun e => e))
      have KO := Lib.hid (HO.out.trans ho1)
      clear ho1 H1 H2 HO
      go_upto_region 7 with (fail)
      have hL1 : EvAt ((w1.alloc (.cells (evC blank0).toArray tEv)).setCells w1.heap.size 0 (evC blank0)) a blank0 := (K1.out.alloc _).farCells (by have := K1.out.lt; omega) _ 0
      have hLo : Only NoneOf w ((w1.alloc (.cells (evC blank0).toArray tEv)).setCells w1.heap.size 0 (evC blank0)) := only_setCells (KO.out.alloc _) _ _ (.inr (by have := KO.out.size; omega)) _
      have hL2 : EvAt ((w1.alloc (.cells (evC blank0).toArray tEv)).setCells w1.heap.size 0 (evC blank0)) (a + 1) evX := (K2.out.alloc _).farCells (by have := K2.out.lt; omega) _ 0
      refine wp_gen (fun Z => EvAt Z a blank0 ∧ EvAt Z (a + 1) evX ∧ Only NoneOf w Z) ⟨hL1, hL2, hLo⟩ ?_
      rintro w2 ⟨h1, h2, ho⟩
      have G1 := Lib.hid h1
      have G2 := Lib.hid h2
      have GO := Lib.hid ho
      clear hL1 hL2 hLo h1 h2 ho K1 K2 KO hst2
      have hl1 := ev_load G1.out rfl
      go_wp2_with (obtain ⟨ie, z, hie, hsz, hz⟩ := ev_info; refine wpList_buildSlice rfl 42 tEv 2 _ rfl (evTwo blank0 blank0).toArray ie z Tryz.underlying42 hie hz (by rw [hsz]; omega) (by rw [hsz]; omega) (by rw [hsz, Array.toList_map]; exact Great.fill_whole (by omega) [Value.agg (evC blank0).toArray, Value.agg (evC blank0).toArray] _ (by intro v hv; simp only [List.mem_cons, List.not_mem_nil, or_false, or_self] at hv; subst hv; show (evC blank0).toArray.size = 46; rw [List.size_toArray, evC_len rfl]) (by simp)) ?_; clear hie hsz hz)
      refine (echain_any _ [blank0, blank0] _ (evTwo_sl w2 blank0 blank0 rfl rfl) ?_ ?_).mono ?_
      · intro x hx
        simp only [List.mem_cons, List.not_mem_nil, or_false, or_self] at hx
        subst hx
        exact ⟨blank0_ok, by show (0 : Nat) ≤ _; omega, by show (0 : Nat) ≤ _; omega⟩
      · exact (HE.out.none (GO.out.alloc _)).tab
      rintro e3 w3 ⟨rfl, ho3⟩
      rw [chain_two]
      have ho4 := ((Only.refl NoneOf w2).alloc (.cells (evTwo blank0 blank0).toArray tEv)).trans ho3
      have J1 := Lib.hid (G1.out.only ho4 (fun e => e))
      have J2 := Lib.hid (G2.out.only ho4 (fun e => e))
      have JO := Lib.hid (GO.out.trans ho4)
      clear ho3 ho4 G1 G2 GO hl1
      go_upto_region 8 with (fail)
      have hl3 := ev_load J1.out rfl
      go_wp2_with fail
      refine (etext_any blank0 blank0_ok (by show (0 : Nat) ≤ _; omega) (by show (0 : Nat) ≤ _; omega) w3 (HE.out.none JO.out).tab).mono ?_
      rintro e4 w4 ⟨t, rfl, htl, ho⟩
      have ht := bytes_ext (htl.trans text_blank.symm)
      subst ht
      have M2 := ev_load (J2.out.only ho (fun e => e)) rfl
      have MO := Lib.hid (JO.out.trans ho)
      clear ho htl J1 J2 JO hl3
      go_wp2_with fail
      refine (eencode_any evX evX_ok (by show (1 : Nat) ≤ _; omega) (by show (3 : Nat) ≤ _; omega) w4 (HE.out.none MO.out).tab).mono ?_
      rintro e5 w5 ⟨t, rfl, htl, ho⟩
      have ht := bytes_ext (htl.trans code_evX.symm)
      subst ht
      have NO := Lib.hid (MO.out.trans ho)
      clear ho htl MO M2
      go_wp2_with fail
      exact ⟨rfl, _, results_tmp rfl _ _ _, rfl, NO.out⟩
    · have hp : 2 ^ j ≤ 32 := by
        have h : j = 0 ∨ j = 1 ∨ j = 2 ∨ j = 3 ∨ j = 4 ∨ j = 5 := by omega
        rcases h with rfl | rfl | rfl | rfl | rfl | rfl <;> decide
      have hadd := zerosN_add (2 ^ j)
      have hdbl : 2 ^ j + 2 ^ j = 2 ^ (j + 1) := by rw [Nat.pow_succ]; omega
      rw [hdbl] at hadd
      have hz1 := zerosN_size (2 ^ (j + 1))
      obtain ⟨s, es⟩ : ∃ s, s = zerosN (2 ^ j) := ⟨_, rfl⟩
      rw [← es] at hz hadd ⊢
      have ik : (s.size : Int) < 64 := by omega
      have hs2 : s.size + s.size ≤ 9223372036854775807 := by omega
      have HADD := Lib.hid hadd
      have hsp : 0 < s.size := by rw [hz]; exact Nat.pow_pos (by omega)
      have h64 : s.size < 64 := by omega
      clear hadd es hz hz1 hdbl hp
      go_wp2_with fail
      go_round
      case rel => exact ⟨j + 1, by omega, by rw [HADD.out]⟩
      case measure =>
        show 64 - (s ++ s).size < 64 - s.size
        rw [ByteArray.size_append]; omega
end Go.Proofs.YtclpebgjmgfigaaGreatDoor
