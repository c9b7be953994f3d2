/- What is proved here: sign's hash of a letter, numbers and a text, by the program. Conditions: the modulus is positive; the texts are short. -/
import Derived.Test.YtmgbcjjemlcfgaaGreatDoorSignA
namespace Go.Proofs.YtmgbcjjemlcfgaaGreatDoor
open Go.RowKit Go.Shelf
/-- A slice of numbers as it is read. -/
def Nums (w : World) (v : Value) (ns : List Int) : Prop := ∃ A cap, v = .slice A ns.length cap ∧ ∀ i x, ns[i]? = some x → ∃ g, A = some ⟨g, 0, none⟩ ∧ g < w.heap.size ∧ w.cell? ⟨g, i, none⟩ = some (.int .i64 x)
theorem Nums.nil (w : World) : Nums w (.slice none 0 0) [] := ⟨none, 0, rfl, fun i x h => by simp at h⟩
theorem Nums.one {w : World} {g cap : Nat} {t : TypeId} {a : Int} (h : Blk w g t #[.int .i64 a]) : Nums w (.slice (some ⟨g, 0, none⟩) 1 cap) [a] :=
  ⟨_, cap, rfl, fun i x hx => ⟨g, rfl, h.lt, by rw [h.cell]; cases i with | zero => simp at hx; subst hx; rfl | succ i => simp at hx⟩⟩
theorem Nums.two {w : World} {g cap : Nat} {t : TypeId} {a b : Int} (h : Blk w g t #[.int .i64 a, .int .i64 b]) : Nums w (.slice (some ⟨g, 0, none⟩) 2 cap) [a, b] :=
  ⟨_, cap, rfl, fun i x hx => ⟨g, rfl, h.lt, by
    rw [h.cell]
    match i, hx with
    | 0, hx => simp at hx; subst hx; rfl
    | 1, hx => simp at hx; subst hx; rfl
    | i + 2, hx => simp at hx⟩⟩
theorem builder_only {B b : Nat} {bs : List Value} {w w' : World} (h : Lib.IsBuilder 63 5 B b bs w) (ho : Only NoneOf w w') : Lib.IsBuilder 63 5 B b bs w' := by
  have key : ∀ p, Lib.BuilderAt 63 5 B b p bs w → Lib.BuilderAt 63 5 B b p bs w' := by
    rintro p ⟨hB, v, hb, hown, hne⟩
    exact ⟨hB, v, (ho.block b (Array.getElem?_eq_some_iff.1 hb).1 (fun e => e)).trans hb, own_only hown ho (fun _ _ e => e), hne⟩
  exact h.imp (key _) (key _)
theorem flat8 (l : List Int) : (l.flatMap bytes8).length = 8 * l.length := by
  induction l with
  | nil => rfl
  | cons x l ih => simp only [List.flatMap_cons, List.length_append, bytes8_len, ih, List.length_cons]; omega
set_option maxRecDepth 100000 in
set_option maxHeartbeats 400000 in
theorem shash_any (c : UInt8) (s : ByteArray) (m : Int) (v : Value) (ns : List Int) (w : World) (hn : Nums w v ns) (hs : s.size ≤ 17592186044416) (hl : ns.length ≤ 2) (hm0 : 0 < m) (hm : m ≤ 9223372036854775807) :
    Calls Tryz.prog 25 #[.string ⟨#[c]⟩, .string s, .int .i64 m, v] w fun e w' => e = .returned (.int .i64 (hashF m (hashS c ns s.data.toList))) ∧ Only NoneOf w w' := by
  obtain ⟨A, cap, rfl, hA⟩ := hn
  have HA := Lib.hid hA
  clear hA
  go_enter Tryz.func25, Tryz.ntmps25
  go_wp2_with fail
  refine (bwrite_any (l := []) (Lib.fresh_isBuilder 63 5 w) (by show 0 + 1 ≤ _; omega) (by simp)).mono ?_
  rintro e w1 ⟨rfl, hb1, hbel⟩
  have ho1 : Only NoneOf w w1 := ((Only.refl NoneOf w).alloc _).below' hbel (Nat.le_refl _)
  rw [List.nil_append] at hb1
  obtain ⟨B, eB⟩ : ∃ B, B = w.heap.size := ⟨_, rfl⟩
  rw [← eB] at hb1 ⊢
  have EB := Lib.hid eB
  have HO1 := Lib.hid ho1
  have HB1 := Lib.hid hb1
  clear hb1 hbel ho1 eB
  go_wp2_with fail
  go_loopw [16] (fun i wr => ∃ k : Nat, i = .int .i64 k ∧ k ≤ ns.length ∧ Lib.IsBuilder 63 5 B B (Lib.byteCells (c :: (ns.take k).flatMap bytes8)) wr ∧ Only NoneOf w wr) (fun i _ => ns.length - (intOf i).toNat)
  case atStart => exact ⟨0, rfl, by omega, by simpa using HB1.out, HO1.out⟩
  case round =>
    obtain ⟨k, rfl, hk, hb, ho⟩ := hrel
    have HB := Lib.hid hb
    have HO := Lib.hid ho
    clear hb ho
    by_cases hlt : k < ns.length
    · obtain ⟨x, hx⟩ : ∃ x, ns[k]? = some x := ⟨_, List.getElem?_eq_getElem hlt⟩
      obtain ⟨g, rfl, hg, hc⟩ := HA.out k x hx
      have hc2 : wr.cell? ⟨g, k, none⟩ = some (.int .i64 x) := HO.out.cell_some hc (fun e => e)
      have hnx : (ns.take (k + 1)).flatMap bytes8 = (ns.take k).flatMap bytes8 ++ bytes8 x := by
        rw [List.take_add_one, hx, Option.toList_some, List.flatMap_append]; simp
      have HNX := Lib.hid hnx
      have HFL := Lib.hid (flat8 (ns.take k))
      clear hc hx hnx
      go_wp2_with fail
      refine (sbytes8_any x wr).mono ?_
      rintro e w2 ⟨t, rfl, ht, ho2⟩
      have HT := Lib.hid ht
      have HO2 := Lib.hid ho2
      have hb2 := builder_only HB.out ho2
      have HB2 := Lib.hid hb2
      have htl : t.size = 8 := by rw [size_list, ht, bytes8_len]
      clear ht ho2 hb2
      go_wp2_with fail
      refine (bwrite_any HB2.out (by have := HFL.out; rw [List.length_take] at this; simp only [List.length_cons]; omega) (by have := HO2.out.size; have := HO.out.size; have := EB.out; omega)).mono ?_
      rintro e w3 ⟨rfl, hb3, hbel⟩
      have HB3 := Lib.hid hb3
      have HO3 := Lib.hid (((HO.out.trans HO2.out).below' hbel (Nat.le_of_eq EB.out.symm)))
      clear hb3 hbel
      go_wp2_with fail
      go_roundw
      case rel =>
        refine ⟨k + 1, by go_num, by omega, ?_, HO3.out⟩
        have h := HB3.out
        rw [HT.out, List.cons_append, ← HNX.out] at h
        exact h
      case measure => simp [intOf]; omega
    · have hall : ns.take k = ns := List.take_of_length_le (by omega)
      rw [hall] at HB
      have hex : ¬ ((k : Int) < (ns.length : Int)) := by omega
      clear hall
      go_wp2_with fail
      refine (Tryz.Builder_String_any B B _ wr HB.out (by have := HO.out.size; have := EB.out; omega)).mono ?_
      rintro e w2 ⟨rfl, hbel⟩
      have HO2 := Lib.hid (HO.out.below' hbel (Nat.le_of_eq EB.out.symm))
      obtain ⟨T, eT⟩ : ∃ T : ByteArray, T = ⟨(c :: ns.flatMap bytes8).toArray⟩ := ⟨_, rfl⟩
      have hT : T.data.toList = c :: ns.flatMap bytes8 := by rw [eT]
      have hTs : T.size ≤ 17 := by
        rw [size_list, hT, List.length_cons, flat8]; omega
      have hsum : T.size + s.size ≤ 9223372036854775807 := by omega
      have hres : hashF m (T ++ s).data.toList = hashF m (hashS c ns s.data.toList) := by
        rw [ByteArray.data_append, Array.toList_append, hT]; rfl
      have hsz : (T ++ s).size ≤ 35184372088832 := by rw [ByteArray.size_append]; omega
      have HRES := Lib.hid hres
      have HSZ := Lib.hid hsz
      rw [← eT]
      clear hbel hT eT hres hsz
      go_wp2_with fail
      refine (fHash_any _ m HSZ.out hm0 hm w2).mono ?_
      rintro e w3 ⟨rfl, ho3⟩
      have HO3 := Lib.hid (HO2.out.trans ho3)
      clear ho3
      go_wp2_with fail
      go_ret
      exact ⟨ret_int HRES.out, HO3.out⟩
end Go.Proofs.YtmgbcjjemlcfgaaGreatDoor
