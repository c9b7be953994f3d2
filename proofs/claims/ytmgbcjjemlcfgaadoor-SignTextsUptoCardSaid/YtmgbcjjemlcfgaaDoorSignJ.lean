/- What is proved here: decimal texts by the reference. Condition: the numbers are ints. -/
import Derived.Test.YtmgbcjjemlcfgaaDoorSignH
namespace Go.Proofs.YtmgbcjjemlcfgaaDoor
open Go.RowKit Go.Shelf
/-- What holds when the digits out have been written and u is left. -/
def DecI (m u : Nat) (out : List UInt8) : Prop := (u ≠ 0 → Lib.decDigits m = Lib.decDigits u ++ out) ∧ (u = 0 → Lib.decDigits m = out)
theorem DecI.len {m u : Nat} {out : List UInt8} (h : DecI m u out) (hm : m < 18446744073709551616) : out.length ≤ 20 := by
  have := dec_len20 hm
  by_cases h0 : u = 0
  · rw [h.2 h0] at this; exact this
  · rw [h.1 h0, List.length_append] at this; omega
theorem DecI.step {m u : Nat} {out : List UInt8} (h : DecI m u out) (hu : u ≠ 0) : DecI m (u / 10) (UInt8.ofNat (48 + u % 10) :: out) := by
  have h1 := h.1 hu
  by_cases h10 : u < 10
  · rw [dec_small h10] at h1
    refine ⟨fun h => by omega, fun _ => ?_⟩
    rw [h1, Nat.mod_eq_of_lt h10]; rfl
  · rw [dec_big h10] at h1
    refine ⟨fun _ => ?_, fun h => by omega⟩
    rw [h1]; simp
theorem tm10 (v : Int) (u : Nat) (h : v = (u : Int) ∨ v = -(u : Int)) : ∃ e : Int, v.tmod 10 = e ∧ (e = ((u % 10 : Nat) : Int) ∨ e = -((u % 10 : Nat) : Int)) := by
  refine ⟨_, rfl, ?_⟩
  rw [Int.tmod_eq_emod]
  split <;> omega
theorem td10 (v : Int) (u : Nat) (s : Bool) (h : v = if s then -(u : Int) else (u : Int)) : v.tdiv 10 = if s then -((u / 10 : Nat) : Int) else ((u / 10 : Nat) : Int) := by
  rw [Int.tdiv_eq_ediv]
  have hs : Int.sign 10 = 1 := rfl
  cases s
  · simp at h; simp; subst h; split <;> omega
  · simp at h; simp; subst h; split <;> omega
theorem u8_48 (d : Nat) (h : d < 10) : IntKind.u8.wrap (48 + (d : Int)) = ((UInt8.ofNat (48 + d)).toNat : Int) := by
  rw [of_digit h]
  simp [IntKind.wrap, IntKind.bits, IntKind.signed]
  omega
/-- What holds between two digits. -/
def DecR (m : Nat) (sg : Bool) (w : World) (o v : Value) (wr : World) : Prop :=
  ∃ (t : ByteArray) (u : Nat), o = .string t ∧ v = .int .i64 (if sg then -(u : Int) else (u : Int)) ∧ u ≤ 9223372036854775808 ∧ (sg = false → u ≤ 9223372036854775807) ∧ DecI m u t.data.toList ∧ Only NoneOf w wr
set_option maxRecDepth 100000 in
set_option maxHeartbeats 1000000 in
theorem rdec_any (n : Int) (hn : In n) (w : World) : Calls Tryd.prog 42 #[.int .i64 n] w (RetStr (Lib.itoa n) w) := by
  obtain ⟨n0, n1⟩ := hn
  by_cases hz : n = 0
  · subst hz
    go_enter Tryd.func42, Tryd.ntmps42
    go_wp2_with fail
    go_ret
    exact RetStr.mk (by decide +kernel) (Only.refl _ _)
  · obtain ⟨m, em⟩ : ∃ m, m = n.natAbs := ⟨_, rfl⟩
    obtain ⟨sg, esg⟩ : ∃ sg : Bool, sg = decide (n < 0) := ⟨_, rfl⟩
    have hnm : n = if sg then -(m : Int) else (m : Int) := by
      rw [esg, em]; simp only [decide_eq_true_eq]; split <;> omega
    have hm : m < 18446744073709551616 := by omega
    have hi : Lib.itoa n = if sg then 45 :: Lib.decDigits m else Lib.decDigits m := by
      unfold Lib.itoa
      rw [esg, em]; simp only [decide_eq_true_eq]; split
      · rfl
      · rw [show n.toNat = n.natAbs by omega]
    have HI := Lib.hid hi
    have HNM := Lib.hid hnm
    have ESG := Lib.hid esg
    have EM := Lib.hid em
    clear hi hnm esg em
    go_enter Tryd.func42, Tryd.ntmps42
    go_wp2_with fail
    rw [show (n == 0) = false by simpa using hz]
    go_loopw [3, 4] (fun o v wr => DecR m sg w o v wr) (fun _ v _ => (intOf v).natAbs)
    case atStart =>
      have := ESG.out
      have h2 := HNM.out
      refine ⟨_, m, rfl, by rw [← h2], by have := EM.out; omega, fun hf => by rw [hf] at h2; simp at h2; omega, ⟨fun _ => by simp, fun h0 => by have := EM.out; omega⟩, Only.refl _ _⟩
    case round =>
      obtain ⟨t, u, rfl, rfl, hu, hu2, hd, ho⟩ := hrel
      have hl := hd.len hm
      have hts : t.size ≤ 20 := by rw [size_list]; exact hl
      obtain ⟨v, ev⟩ : ∃ v, v = if sg then -(u : Int) else (u : Int) := ⟨_, rfl⟩
      rw [← ev]
      have hv : v = (u : Int) ∨ v = -(u : Int) := by rw [ev]; split <;> simp
      have hvb : -9223372036854775808 ≤ v ∧ v ≤ 9223372036854775807 := by
        rw [ev]; split
        · omega
        · have := hu2 (by simpa using ‹¬sg = true›); omega
      obtain ⟨hv0, hv1⟩ := hvb
      by_cases h0 : u = 0
      · have v0 : v = 0 := by omega
        have hdd := hd.2 h0
        have HD := Lib.hid hdd
        have HO := Lib.hid ho
        clear ev hv hd hdd ho hu2
        subst v0
        cases hsg : sg with
        | false =>
          have hn0 : ¬ n < 0 := by have := ESG.out; rw [hsg] at this; simpa using this.symm
          rw [hsg] at HI
          go_wp2_with fail
          go_ret
          refine RetStr.mk ?_ HO.out
          rw [HI.out, HD.out]; rfl
        | true =>
          have hn0 : n < 0 := by have := ESG.out; rw [hsg] at this; simpa using this.symm
          have hq : ¬ 9223372036854775807 < 1 + t.size := by omega
          rw [hsg] at HI
          go_wp2_with fail
          go_ret
          refine RetStr.mk ?_ HO.out
          rw [HI.out, HD.out, ByteArray.data_append, Array.toList_append]; rfl
      · obtain ⟨e, em1, he⟩ := tm10 v u hv
        have htd := td10 v u sg ev
        have hst := hd.step h0
        have hu8 := u8_48 (u % 10) (by omega)
        obtain ⟨d, ed⟩ : ∃ d, d = u % 10 := ⟨_, rfl⟩
        obtain ⟨q, eq⟩ : ∃ q, q = u / 10 := ⟨_, rfl⟩
        rw [← ed] at he hst hu8
        rw [← eq] at htd hst
        obtain ⟨z, ez⟩ : ∃ z, z = v.tdiv 10 := ⟨_, rfl⟩
        have hzb : -9223372036854775808 ≤ z ∧ z ≤ 9223372036854775807 := by rw [ez, htd]; split <;> omega
        obtain ⟨c, ec⟩ : ∃ c, c = UInt8.ofNat (48 + d) := ⟨_, rfl⟩
        rw [← ec] at hst hu8
        have w1 : IntKind.i64.wrap (v.tmod 10) = e := by rw [em1]; exact IntWalk.i64_in _ (by omega)
        have w2 : IntKind.i64.wrap (v.tdiv 10) = z := by rw [← ez]; exact IntWalk.i64_in _ hzb
        have w3 : IntKind.i64.wrap (48 + (d : Int)) = 48 + (d : Int) := IntWalk.i64_in _ (by omega)
        have hnv : ¬ v = 0 := by omega
        have hq : ¬ 9223372036854775807 < 1 + t.size := by omega
        have hu8' : (48 + (d : Int)) % 256 = (c.toNat : Int) := by rw [← hu8]; simp [IntKind.wrap, IntKind.bits, IntKind.signed]
        have ez' := ez.symm
        have w5 : IntKind.i64.wrap z = z := IntWalk.i64_in _ hzb
        have hby : BytesAt (wr.alloc (.cells #[.int .u8 (c.toNat : Int)] 5)) wr.heap.size 0 [c] := blk_bytes (Blk.new wr 5 #[bv c])
        have HBY := Lib.hid hby
        have HO := Lib.hid ho
        have HST := Lib.hid hst
        have HTD := Lib.hid (ez.trans htd)
        have HU2 := Lib.hid hu2
        have EQ := Lib.hid eq
        have EV := Lib.hid ev
        have hms : (intOf (.int .i64 z)).natAbs < (intOf (.int .i64 v)).natAbs := by
          show z.natAbs < v.natAbs
          rw [ez, htd, ev, eq]
          split <;> omega
        have HMS := Lib.hid hms
        have tok : True := trivial
        have L1 : (⟨[c].toArray⟩ : ByteArray).size = 1 := rfl
        have fin : ∀ W, Only NoneOf w W → DecR m sg w (.string ((⟨[c].toArray⟩ : ByteArray) ++ t)) (.int .i64 z) W := fun W hW => by
          refine ⟨_, q, rfl, by rw [HTD.out], by have := EQ.out; omega, fun h => by have := EQ.out; have := HU2.out h; omega, ?_, hW⟩
          rw [ByteArray.data_append, Array.toList_append]
          exact HST.out
        have FIN := Lib.hid fin
        by_cases hneg : e < 0
        · have w4 : IntKind.i64.wrap (-e) = (d : Int) := by rw [show -e = (d : Int) by omega]; exact IntWalk.i64_in _ (by omega)
          clear hd ho hst htd ec ed eq hby hu2 ev hms fin hv he hl ez hzb
          go_wp2_with (have _t := tok; refine wpList_convert_back rfl 42 9 5 (.tmp 20) rfl wr.heap.size 0 1 1 rfl [c] rfl HBY.out Tryd.underlying42 Tryd.underlying5 Tryd.underlying9 ?_; clear tok _t)
          go_roundw
          case rel => first | exact FIN.out _ (HO.out.alloc _) | exact ⟨_, _, _, _, _, _, _, _, _, _, _, _, _, _, _, _, _, _, _, _, FIN.out _ (HO.out.alloc _), rfl⟩
          case measure => exact HMS.out
        · obtain rfl : e = (d : Int) := by omega
          clear hd ho hst htd ec ed eq hby hu2 ev hms fin hv he hl ez hzb
          go_wp2_with (have _t := tok; refine wpList_convert_back rfl 42 9 5 (.tmp 20) rfl wr.heap.size 0 1 1 rfl [c] rfl HBY.out Tryd.underlying42 Tryd.underlying5 Tryd.underlying9 ?_; clear tok _t)
          go_roundw
          case rel => first | exact FIN.out _ (HO.out.alloc _) | exact ⟨_, _, _, _, _, _, _, _, _, _, _, _, _, _, _, _, _, _, _, _, FIN.out _ (HO.out.alloc _), rfl⟩
          case measure => exact HMS.out
end Go.Proofs.YtmgbcjjemlcfgaaDoor
