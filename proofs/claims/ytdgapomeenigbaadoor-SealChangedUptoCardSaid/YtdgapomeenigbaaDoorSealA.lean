/- What is proved here: decimal texts by the library, checks and the stream of a key. Conditions: the library's table of powers of ten reads as its initialiser lays it; texts are short. -/
import Derived.Test.YtdgapomeenigbaaDoorNum
import Derived.Test.YtdgapomeenigbaaDoorShaF
import Derived.Test.YtdgapomeenigbaaDoorShelf
import Derived.Test.YtdgapomeenigbaaDoorEnds
namespace Go.Proofs.YtdgapomeenigbaaDoor
open Go.RowKit Go.Shelf
attribute [local go_sem] Oper.semAt_some

def pow10 : String := "internal/strconv.uint64pow10"
def Tab (w : World) : Prop := Lib.TabIs Tryd.prog w pow10 .u64 Lib.pow10Tab
theorem Tab.only {S : Nat → Prop} {w w' : World} (h : Tab w) (ho : Only S w w') (hS : ∀ k, S k → 0 < k) : Tab w' := by
  have hg : Tryd.prog.globalNamed pow10 = some 0 := by kernel_rfl
  unfold Tab Lib.TabIs World.var? at *
  rw [hg] at h ⊢
  simp only [Option.bind_some] at h ⊢
  have hlt : 0 < w.heap.size := by
    rcases Nat.lt_or_ge 0 w.heap.size with h1 | h1
    · exact h1
    · rw [Array.getElem?_eq_none h1] at h; cases h
  rw [ho.block _ hlt (fun hs => by have := hS _ hs; omega)]
  exact h
theorem Tab.none {w w' : World} (h : Tab w) (ho : Only NoneOf w w') : Tab w' := h.only ho (fun _ h => h.elim)
theorem only_grows (w : World) (k : Nat) (os : Array Obj) : Only NoneOf w (Sort.grow (w.drewN k) os) :=
  ⟨rfl, rfl, rfl, by simp [Sort.grow], fun i hi _ => by
    show (w.heap ++ os)[i]? = w.heap[i]?
    rw [Array.getElem?_append_left hi]⟩
theorem itoa_any (n : Int) (h0 : -9223372036854775808 ≤ n) (h1 : n ≤ 9223372036854775807) (w : World) (ht : Tab w) : Calls Tryd.prog 27 #[.int .i64 n] w (RetStr (Lib.itoa n) w) :=
  (Tryd.strconv_Itoa n h0 h1 w ht).mono fun e w' h => by
    obtain ⟨rfl, k, os, rfl⟩ := h
    exact RetStr.mk (by simp) (only_grows w k os)
/-- The string whose sum is the check. -/
def checkS (key : Int) (l : List UInt8) : List UInt8 := [99, 104, 101, 99, 107, 47] ++ Lib.itoa key ++ [47] ++ l
def streamS (key : Int) (k : Nat) : List UInt8 := [115, 116, 114, 101, 97, 109, 47] ++ Lib.itoa key ++ [47] ++ Lib.itoa (k : Int)
/-- A hash as a value. -/
def hv (l : List UInt8) : Value := .agg (l.map bv).toArray
theorem shaL_len (l : List UInt8) : (shaL l).length = 32 := by simp [shaL, be4]
set_option maxRecDepth 100000 in
set_option maxHeartbeats 400000 in
theorem check_any (key : Int) (h0 : -9223372036854775808 ≤ key) (h1 : key ≤ 9223372036854775807) (s : ByteArray) (hs : s.size ≤ 17592186044416) (w : World) (ht : Tab w) :
    Calls Tryd.prog 21 #[.int .i64 key, .string s] w fun e w' => e = .returned (hv (shaL (checkS key s.data.toList))) ∧ Only NoneOf w w' := by
  have HI := Lib.hid (fun w ht => itoa_any key h0 h1 w ht)
  have HT := Lib.hid ht
  have HL := Lib.hid (itoa_len h0 h1)
  clear ht
  go_enter Tryd.func21, Tryd.ntmps21
  go_wp2_with fail
  refine (HI.out _ (HT.out.none ((Only.refl NoneOf w).alloc _))).mono ?_
  rintro e w1 ⟨t, rfl, hl, ho⟩
  have zt : t.size ≤ 21 := by rw [size_list, hl]; exact HL.out
  have HTL := Lib.hid hl
  have HO := Lib.hid ho
  clear hl ho
  go_wp2_with fail
  refine (sum_any _ _ ?hs).mono ?_
  case hs =>
    have z6 : (⟨#[99, 104, 101, 99, 107, 47]⟩ : ByteArray).size = 6 := rfl
    have z1 : (⟨#[47]⟩ : ByteArray).size = 1 := rfl
    simp only [ByteArray.size_append]; omega
  rintro e w2 ⟨rfl, ho2⟩
  obtain ⟨h, eh⟩ : ∃ h, h = shaL (checkS key s.data.toList) := ⟨_, rfl⟩
  have e1 : shaL ((⟨#[99, 104, 101, 99, 107, 47]⟩ ++ t ++ ⟨#[47]⟩ ++ s : ByteArray).data.toList) = h := by
    rw [eh, append_list, append_list, append_list, HTL.out]; rfl
  have EH := Lib.hid eh
  have hl : h.length = 32 := by rw [eh]; exact shaL_len _
  have hi41 : (Tryd.prog.info? 41).map (·.size) = some (h.map bv).toArray.size := by rw [List.size_toArray, List.length_map, hl]; kernel_rfl
  have hone : (h.map bv).toArray.all (·.oneCell') = true := all_oneCell_toArray (bvs_one _)
  have hb := (Blk.new w 41 (Array.replicate 32 (.int .u8 0))).only (HO.out.trans ho2) (fun h => h)
  have hth := hb.there 0 (h.map bv).toArray.size (by rw [List.size_toArray, List.length_map, hl]; exact Nat.le_refl _)
  have HI41 := Lib.hid hi41
  have HONE := Lib.hid hone
  have HTH := Lib.hid hth
  have HBB := Lib.hid hb
  have HL2 := Lib.hid hl
  have HO2 := Lib.hid ho2
  rw [e1]
  clear e1 eh hl hi41 hone hb hth ho2
  have tok1 : True := trivial
  go_wp2_with (have _t := tok1; refine wpList_store_mid rfl 41 (.tmp 4) (.tmp 11) rfl w.heap.size 0 (h.map bv).toArray rfl rfl HTH.out HI41.out HONE.out ?_; clear tok1 _t)
  have hbf := Blk.filled (xs := List.replicate 32 (.int .u8 0)) HBB.out (h.map bv).toArray.toList (by simp [HL2.out])
  refine bodyPost_ret (results_blk rfl rfl hbf Tryd.underlying41 rfl (by simpa using HI41.out)) rfl ⟨?_, only_setCells (((Only.refl NoneOf w).alloc _).trans (HO.out.trans HO2.out)) _ _ (.inr (Nat.le_refl _)) _⟩
  rw [← EH.out]
  simp [hv]
set_option maxHeartbeats 400000 in
theorem stream_any (key : Int) (w : World) :
    Calls Tryd.prog 30 #[.int .i64 key] w fun e w' => e = .returned (.func (.func 44) #[] #[.pointer (some ⟨w.heap.size, 0, none⟩)]) ∧ w' = w.alloc (.cells #[.int .i64 key] 3) := by
  go_enter Tryd.func30, Tryd.ntmps30
  go_wp2_with fail
  go_ret
  exact ⟨rfl, rfl⟩
/-- One block lies as it lay, and the table. -/
def Kept1 (A : Nat) (W W' : World) : Prop := W'.heap[A]? = W.heap[A]? ∧ (Tab W → Tab W')
theorem kept1_t {A : Nat} {X Y Z : World} (h : Kept1 A X Y) (k : Kept1 A Y Z) : Kept1 A X Z := ⟨k.1.trans h.1, fun t => k.2 (h.2 t)⟩
theorem tab_put {W : World} {l : Nat} {o o' : Obj} (h : Tab W) (hl : W.heap[l]? = some o) (ho : o.isCells = false) : Tab (W.putObj l o') := by
  have hg : Tryd.prog.globalNamed pow10 = some 0 := by kernel_rfl
  unfold Tab Lib.TabIs World.var? at *
  rw [hg] at h ⊢
  simp only [Option.bind_some] at h ⊢
  have hne : 0 ≠ l := by
    rintro rfl
    rw [hl] at h
    cases o with
    | cells c t f => cases ho
    | _ => cases h
  rw [World.putObj_heap_other hne]
  exact h
theorem kept1_b {A : Nat} {w : World} (hA : A < w.heap.size) (W : World) (l : Nat) (o o' : Obj) (hl : w.heap.size ≤ l) (h : W.heap[l]? = some o) (hc : o.isCells = false) (_ : o.isWalk = false) : Kept1 A W (W.putObj l o') :=
  ⟨World.putObj_heap_other (by omega), fun t => tab_put t h hc⟩
theorem Kept1.none {A : Nat} {W W' : World} (ho : Only NoneOf W W') (hA : A < W.heap.size) : Kept1 A W W' := ⟨ho.block A hA (fun h => h), fun t => t.none ho⟩
theorem kept1_lt {A : Nat} {W W' : World} (h : Kept1 A W W') (hA : A < W.heap.size) : A < W'.heap.size := by
  rcases Nat.lt_or_ge A W'.heap.size with h1 | h1
  · exact h1
  · have := h.1
    rw [Array.getElem?_eq_none h1, Array.getElem?_eq_getElem hA] at this
    cases this
theorem grown_of_only {W W' : World} (ho : Only NoneOf W W') : W.grownBy W' none := ho.grownBy (fun _ h => h.elim)
set_option maxRecDepth 100000 in
set_option maxHeartbeats 1000000 in
theorem stream_ends (n A N : Nat) (hN : N ≤ 4611686018427387904) (key : Int) (h0 : -9223372036854775808 ≤ key) (h1 : key ≤ 9223372036854775807) (w : World) (hA : w.cell? ⟨A, 0, none⟩ = some (.int .i64 key)) (ht : Tab w) :
    SeqEnds Fence.wide n Tryd.prog 44 #[.pointer (some ⟨A, 0, none⟩)] (fun k => #[.int .i64 k, hv (shaL (streamS key k))]) (Kept1 A) N w := by
  intro l J Jx W hW hJ hJx hlt hY hj
  have hAw := World.block_lt_of_cell? w _ hA
  have cA := (hW.cell (p := ⟨A, 0, none⟩) hAw).trans hA
  have htW : Tab W := ht.none (Only.of_below hW NoneOf)
  refine callsIn_of_wp Tryd.func44 rfl trivial ?_ rfl
  simp only [Tryd.ntmps44, List.size_toArray, List.length_cons, List.length_nil, Nat.reduceAdd, Nat.reduceSub, Array.replicate_succ, Array.replicate_zero, List.push_toArray, List.append_toArray, List.nil_append, List.cons_append]
  have HI := Lib.hid (fun w ht => itoa_any key h0 h1 w ht)
  have HL := Lib.hid (itoa_len h0 h1)
  have HJ := Lib.hid hJ
  have HLT := Lib.hid hlt
  have HY := Lib.hid hY
  have HJ0 := Lib.hid hj
  have HTW := Lib.hid htW
  clear hJ hJx hlt hY hj htW ht hA
  gi_wp2
  refine ⟨trivial, (fun h => by cases h), (callsIn_wide.2 (HI.out _ HTW.out)).mono ?_⟩
  rintro e w1 ⟨t, rfl, hl, ho⟩
  have zt : t.size ≤ 21 := by rw [size_list, hl]; exact HL.out
  have HTL := Lib.hid hl
  have HO := Lib.hid ho
  clear hl ho
  gi_wp2
  gi_loopw [4] (fun v wr => ∃ k : Nat, v = .int .i64 k ∧ J k wr ∧ Kept1 A W wr ∧ A < wr.heap.size) (fun v _ => N - (intOf v).toNat)
  case atStart => exact ⟨0, rfl, HJ.out _ _ _ none HJ0.out (grown_of_only HO.out) (fun r e => by cases e), Kept1.none HO.out (Nat.lt_of_lt_of_le hAw hW.size), Nat.lt_of_lt_of_le (Nat.lt_of_lt_of_le hAw hW.size) HO.out.size⟩
  case round =>
    obtain ⟨k, rfl, hjk, hkp, hAr⟩ := hrel
    have hkN := HLT.out k wr hjk
    have HI2 := Lib.hid (itoa_any (k : Int) (by omega) (by omega) wr (hkp.2 HTW.out))
    have HL2 := Lib.hid (itoa_len (n := (k : Int)) (by omega) (by omega))
    have HJK := Lib.hid hjk
    have HKP := Lib.hid hkp
    clear hjk hkp
    gi_wp2
    refine ⟨trivial, (fun h => by cases h), (callsIn_wide.2 HI2.out).mono ?_⟩
    rintro e w2 ⟨t2, rfl, hl2, ho2⟩
    have zt2 : t2.size ≤ 21 := by rw [size_list, hl2]; exact HL2.out
    have HTL2 := Lib.hid hl2
    have HO2 := Lib.hid ho2
    clear hl2 ho2
    gi_wp2
    refine ⟨trivial, (fun h => by cases h), (callsIn_wide.2 (sum_any _ _ ?hs)).mono ?_⟩
    case hs =>
      have z6 : (⟨#[115, 116, 114, 101, 97, 109, 47]⟩ : ByteArray).size = 7 := rfl
      have z1 : (⟨#[47]⟩ : ByteArray).size = 1 := rfl
      simp only [ByteArray.size_append]; omega
    rintro e w3 ⟨rfl, ho3⟩
    have e1 : shaL ((⟨#[115, 116, 114, 101, 97, 109, 47]⟩ ++ t ++ ⟨#[47]⟩ ++ t2 : ByteArray).data.toList) = shaL (streamS key k) := by
      rw [append_list, append_list, append_list, HTL.out, HTL2.out]; rfl
    rw [e1]
    have ho23 := HO2.out.trans ho3
    have hj3 : J k w3 := HJ.out _ _ _ none HJK.out (grown_of_only ho23) (fun r e => by cases e)
    obtain ⟨fn, tmps, assign, body, hy, hR⟩ := HY.out k w3 hj3
    unfold hv at hy
    have k3 := kept1_t HKP.out (Kept1.none ho23 hAr)
    have hA3 : A < w3.heap.size := Nat.lt_of_lt_of_le hAr ho23.size
    have HR := Lib.hid hR
    have K3 := Lib.hid k3
    clear e1 ho3 ho23 hj3 hR k3
    gi_wp2
    refine ⟨(fun h => by cases h), HR.out.mono ?_⟩
    rintro e w4 (⟨rfl, hJ4, hk4⟩ | ⟨rfl, hJx4⟩)
    · gi_wp2
      go_roundw
      case rel => exact ⟨k + 1, by go_num, hJ4, kept1_t K3.out hk4, kept1_lt hk4 hA3⟩
      case measure => simp [intOf]; omega
    · gi_wp2
      go_end0
      exact ⟨⟨_, rfl⟩, _, hJx4⟩
end Go.Proofs.YtdgapomeenigbaaDoor
