/- What is proved here: numbers and texts joined, quoted texts, by the program's layer of events. Conditions: the texts are short; the table of powers of ten reads as its initialiser lays it. -/
import Derived.Test.YtclpebgjmgfigaaGreatDoorHex
import Derived.Test.YtclpebgjmgfigaaGreatDoorJoin
import Derived.Test.YtclpebgjmgfigaaGreatDoorEvO
import Derived.Deep.RegionHeld3
namespace Go.Proofs.YtclpebgjmgfigaaGreatDoor
open Go.RowKit Go.Shelf
theorem infoStr : (Tryz.prog.info? 9).map (fun i => (i.zero, i.size, i.bytes)) = some (some (.string ⟨#[]⟩), 1, 16) := by kernel_rfl
theorem numsL_join : ∀ ns : List Int, numsL ns = joinW (ns.map Lib.itoa)
  | [] => rfl
  | [n] => by simp [numsL, joinW]
  | n :: m :: l => by
    have ih := numsL_join (m :: l)
    simp only [numsL, ih, joinW, List.map_cons, List.flatMap_cons, List.cons_append]
theorem join_quo (a b c d e : List UInt8) : joinW [a, b, c, d, e] = a ++ 32 :: (b ++ 32 :: (c ++ 32 :: (d ++ 32 :: e))) := by
  simp [joinW]
theorem join_two (a b : List UInt8) : joinW [a, b] = a ++ 32 :: b := by simp [joinW]
def IntsAt (w : World) (g : Nat) (ns : List Int) : Prop := ∀ (j : Nat) (x : Int), ns[j]? = some x → w.cell? ⟨g, j, none⟩ = some (.int .i64 x)
theorem IntsAt.only {w w' : World} {g : Nat} {ns : List Int} (h : IntsAt w g ns) (ho : Only NoneOf w w') : IntsAt w' g ns := fun j x hx => ho.cell_some (h j x hx) (fun e => e)
theorem ints_of {w : World} {g : Nat} {t : TypeId} {ns : List Int} (h : Blk w g t (ns.map (fun x => Value.int .i64 x)).toArray) : IntsAt w g ns := fun j x hx => by
  rw [h.cell, List.getElem?_toArray, List.getElem?_map, hx]; rfl
theorem strs_of {w : World} {g : Nat} {t : TypeId} {xs : List ByteArray} (h : Blk w g t (xs.map (fun x => Value.string x)).toArray) : StrsAt w g 0 xs := fun j x hx => by
  rw [Nat.zero_add, h.cell, List.getElem?_toArray, List.getElem?_map, hx]; rfl
set_option maxRecDepth 100000 in
theorem ewords_any (x0 : ByteArray) (r : List ByteArray) (bk o c n : Nat) (w : World) (hx : StrsAt w bk o (x0 :: r)) (hn : n = r.length + 1) (h2 : 1 ≤ r.length) (hN : r.length ≤ 1000) (hcap : n ≤ c) (hc : c ≤ 9223372036854775807) (hlen : lenAll ((x0 :: r).map (·.data.toList)) ≤ 35184372088832) :
    Calls Tryz.prog 29 #[.slice (some ⟨bk, o, none⟩) n c] w (RetStr (joinW ((x0 :: r).map (·.data.toList))) w) := by
  have HJ := Lib.hid (sjoin_any x0 r bk o c n w hx hn h2 hN hcap hc hlen)
  clear hx hn hlen
  go_enter Tryz.func29, Tryz.ntmps29
  go_wp2_with fail
  refine HJ.out.mono ?_
  rintro e w1 ⟨t, rfl, ht, ho⟩
  have HT := Lib.hid ht
  have HO := Lib.hid ho
  clear ht ho
  go_wp2_with fail
  go_ret
  exact RetStr.mk HT.out HO.out
set_option maxRecDepth 100000 in
set_option maxHeartbeats 400000 in
theorem equoted_any (s : ByteArray) (hs : s.size ≤ 17592186044416) (w : World) (ht : Tab w) : Calls Tryz.prog 32 #[.string s] w (RetStr (quoL s.data.toList) w) := by
  have hi := itoa_any (s.size : Int) (by omega) (by omega) w ht
  have hl := itoa_len (n := (s.size : Int)) (by omega) (by omega)
  have HI := Lib.hid hi
  clear hi
  go_enter Tryz.func32, Tryz.ntmps32
  go_wp2_with fail
  refine HI.out.mono ?_
  rintro e w1 ⟨t, rfl, htl, ho⟩
  have hts : t.size ≤ 21 := by rw [size_list, htl]; exact hl
  have h1 : t.size + 1 ≤ 9223372036854775807 := by omega
  have h2 : t.size + 1 + s.size ≤ 9223372036854775807 := by omega
  have HT := Lib.hid htl
  have HO := Lib.hid ho
  clear htl ho hl
  go_wp2_with fail
  go_ret
  exact RetStr.mk (by rw [ByteArray.data_append, ByteArray.data_append, Array.toList_append, Array.toList_append, HT.out, size_list]; simp [quoL]) HO.out
theorem lenAll_itoa : ∀ ns : List Int, (∀ n ∈ ns, In n) → lenAll (ns.map Lib.itoa) ≤ 21 * ns.length
  | [], _ => by simp [lenAll]
  | n :: l, h => by
    have ih := lenAll_itoa l (fun x hx => h x (by simp [hx]))
    have h1 := itoa_len (h n (by simp)).1 (h n (by simp)).2
    rw [List.map_cons, lenAll_cons, List.length_cons]
    omega
set_option maxRecDepth 100000 in
set_option maxHeartbeats 1000000 in
theorem enumbers_any (ns : List Int) (g c m : Nat) (w : World) (hi : IntsAt w g ns) (hin : ∀ n ∈ ns, In n) (hm : m = ns.length) (h2 : 2 ≤ m) (hN : m ≤ 100) (hcap : m ≤ c) (hc : c ≤ 9223372036854775807) (ht : Tab w) :
    Calls Tryz.prog 30 #[.slice (some ⟨g, 0, none⟩) m c] w (RetStr (numsL ns) w) := by
  obtain ⟨i0, hi0, hz0, hz1, hz2⟩ := info_parts infoStr
  have HI := Lib.hid hi
  have HIN := Lib.hid hin
  have HM := Lib.hid hm
  have HT := Lib.hid ht
  clear hi hin hm ht
  go_enter Tryz.func30, Tryz.ntmps30
  go_wp2_with fail
  go_loopw [3, 8] (fun v i wr => ∃ (k : Nat) (ss : List ByteArray), i = .int .i64 k ∧ k ≤ m ∧ ss.map (·.data.toList) = (ns.take k).map Lib.itoa ∧ wr.ownsRow w.heap.size 9 1 v k (ss.map (fun x => Value.string x)) ∧ Only NoneOf w wr) (fun _ i _ => m - (intOf i).toNat)
  case atStart => exact ⟨0, [], rfl, by omega, rfl, ⟨rfl, .inl ⟨rfl, rfl⟩⟩, Only.refl _ _⟩
  case round =>
    obtain ⟨k, ss, rfl, hk, hss, hown, ho⟩ := hrel
    have HOWN := Lib.hid hown
    have HO := Lib.hid ho
    have HSS := Lib.hid hss
    obtain ⟨ao, cap, hv, hcc, hcm⟩ := own_form' hown
    subst hv
    have hwz := ho.size
    clear hown ho hss
    by_cases hlt : k < m
    · obtain ⟨x, hx⟩ : ∃ x, ns[k]? = some x := ⟨_, List.getElem?_eq_getElem (by rw [← HM.out]; exact hlt)⟩
      have hc0 := HO.out.cell_some (HI.out k x hx) (fun e => e)
      have hix := HIN.out x (List.mem_of_getElem? hx)
      have hit := itoa_any x hix.1 hix.2 wr (HT.out.none HO.out)
      have hnx : (ns.take (k + 1)).map Lib.itoa = (ns.take k).map Lib.itoa ++ [Lib.itoa x] := by
        rw [List.take_add_one, hx, Option.toList_some, List.map_append]; rfl
      have ik : (k : Int) < (m : Int) := by omega
      have HIT := Lib.hid hit
      have HNX := Lib.hid hnx
      clear hx hix hit hnx
      go_wp2_with fail
      refine HIT.out.mono ?_
      rintro e w1 ⟨t, rfl, ht, ho1⟩
      have hw1 := ho1.size
      have HO1 := Lib.hid (HO.out.trans ho1)
      have HOW1 := Lib.hid (own_only HOWN.out ho1 (fun _ _ e => e))
      have HT1 := Lib.hid ht
      clear ho1 ht
      go_wp2_with (at_builtin; refine wpList_append_own _ rfl _ _ 40 rfl w.heap.size 9 i0 (.string ⟨#[]⟩) 1 16 Tryz.underlying40 hi0 hz0 hz1 hz2 rfl (by decide) _ _ _ rfl (HOW1.out.alloc _) ⟨w1.heap.size, 0, none⟩ 1 1 [.string t] rfl rfl (fun j u hu => by match j, hu with | 0, hu => simp at hu; subst hu; simp [Addr.add]) (fun u hu => by simp at hu; subst hu; rfl) (by unfold maxLen; omega) (by omega) (by simp; omega) ?_; intro v' w2 hown' hgrow _; have HOW2 := Lib.hid hown'; have HO2 : Hid (Only NoneOf w w2) := Lib.hid ((HO1.out.alloc _).grown hgrow (fun b e => .inr (HOW1.out.lt b e).1)); clear hown' hgrow)
      go_roundw
      case rel => exact ⟨k + 1, ss ++ [t], by go_num, by omega, by rw [List.map_append, HSS.out, HNX.out, List.map_singleton, HT1.out], by rw [List.map_append]; exact HOW2.out, HO2.out⟩
      case measure => simp [intOf]; omega
    · obtain rfl : k = m := by omega
      have hall : ns.take k = ns := List.take_of_length_le (by rw [← HM.out]; exact Nat.le_refl _)
      have ik : ¬ (k : Int) < (k : Int) := by omega
      rw [hall] at HSS
      have hsl : ss.length = k := by have h := congrArg List.length HSS.out; rw [List.length_map, List.length_map, ← HM.out] at h; exact h
      obtain ⟨gg, cg, hvv, hg1, hg2, hg3, hg4⟩ := own_form HOWN.out (by omega)
      obtain ⟨rfl, _, rfl⟩ : ao = some ⟨gg, 0, none⟩ ∧ k = k ∧ cap = cg := by simpa using hvv
      obtain ⟨x0, r, rfl⟩ : ∃ x0 r, ss = x0 :: r := by
        cases ss with
        | nil => simp at hsl; omega
        | cons x0 r => exact ⟨x0, r, rfl⟩
      have hst : StrsAt wr gg 0 (x0 :: r) := by
        rcases HOWN.out.2 with ⟨hv, _⟩ | ⟨g', cap', cur, hv, _, hh, _, _, _, htk⟩
        · simp at hv
        · simp only [Value.slice.injEq, Option.some.injEq, Addr.mk.injEq, and_true, true_and] at hv
          obtain ⟨rfl, rfl⟩ := hv
          intro j x hx
          have hj : j < k := by rw [← hsl]; exact (List.getElem?_eq_some_iff.1 hx).1
          have h1 : (cur.toList.take (k * 1))[j]? = some (.string x) := by rw [htk, List.getElem?_map, hx]; rfl
          rw [List.getElem?_take, if_pos (by omega)] at h1
          rw [Nat.zero_add]
          have h2 := Blk.cell (t := 9) hh j
          rw [h2]
          simpa using h1
      have hlen : lenAll ((x0 :: r).map (·.data.toList)) ≤ 35184372088832 := by
        rw [HSS.out]
        have := lenAll_itoa ns HIN.out
        rw [← HM.out] at this
        omega
      have hrl : r.length = k - 1 := by simp at hsl; omega
      have hw := ewords_any x0 r gg 0 cap k wr hst (by omega) (by omega) (by omega) (by omega) (by rw [maxLen_val] at hg4; exact hg4) hlen
      have HW := Lib.hid hw
      clear hw hst hlen hsl hvv hall
      go_wp2_with fail
      refine HW.out.mono ?_
      rintro e w3 ⟨t, rfl, ht, ho3⟩
      have HT3 := Lib.hid ht
      have HO3 := Lib.hid (HO.out.trans ho3)
      clear ht ho3
      go_wp2_with fail
      go_ret
      exact RetStr.mk (by rw [HT3.out, HSS.out, numsL_join]) HO3.out
end Go.Proofs.YtclpebgjmgfigaaGreatDoor
