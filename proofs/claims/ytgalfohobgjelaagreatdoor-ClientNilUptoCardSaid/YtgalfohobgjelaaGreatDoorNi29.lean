/- What is proved here: several parts. a string's text in hexadecimal, by the bids' code. Condition: the string is short. · the writer of bids writes a line: a word and ints. Conditions: the texts are short, the ints lie apart from the writer's blocks. · a bid's text, by the bids' code. Conditions: the bid is well and its texts are short. · the setup of the client's worlds. Condition: the world's numbers are bytes. -/
import Derived.Test.YtgalfohobgjelaaGreatDoorNi08
import Derived.Test.YtgalfohobgjelaaGreatDoorNi12
import Derived.Test.YtgalfohobgjelaaGreatDoorNi28
import Derived.BigQuiet
namespace Go.Proofs.YtgalfohobgjelaaGreatDoor
open Go.RowKit Go.Shelf
set_option maxRecDepth 100000 in
set_option maxHeartbeats 1000000 in
theorem bhex_any (t : ByteArray) (hl : t.size ≤ 1000000) (w : World) : Calls Tryz.prog 110 #[.string t] w (RetStr (hexL t.data.toList) w) := by
  obtain ⟨h, eh⟩ : ∃ h, h = t.data.toList := ⟨_, rfl⟩
  have hlen : h.length = t.size := by rw [eh, size_list]
  have hb0 := Lib.fresh_isBuilder 163 5 w
  have ho0 : Only NoneOf w (w.alloc (.cells #[.pointer none, .slice none 0 0] 163)) := (Only.refl _ _).alloc _
  have hc0 : (w.alloc (.cells #[.pointer none, .slice none 0 0] 163)).cell? ⟨w.heap.size, 1, none⟩ = some (.slice none 0 0) := Blk.cell (Blk.new w 163 #[.pointer none, .slice none 0 0]) 1
  have HB0 := Lib.hid hb0
  have HO0 := Lib.hid ho0
  have HC0 := Lib.hid hc0
  have HL := Lib.hid hl
  have HLEN := Lib.hid hlen
  have EH := Lib.hid eh
  rw [← eh]
  clear hb0 ho0 hl eh hc0 hlen
  go_enter Tryz.func110, Tryz.ntmps110
  go_wp2_with fail
  obtain ⟨Y, eY⟩ : ∃ Y, Y = w.alloc (.cells #[.pointer none, .slice none 0 0] 163) := ⟨_, rfl⟩
  have hb1 := HB0.out
  have ho1 := HO0.out
  have hc1 := HC0.out
  rw [← eY] at hb1 ho1 hc1
  rw [← eY]
  obtain ⟨B, eB⟩ : ∃ B, B = w.heap.size := ⟨_, rfl⟩
  rw [← eB] at hb1 hc1 ⊢
  have HB1 := Lib.hid hb1
  have HO1 := Lib.hid ho1
  have HC1 := Lib.hid hc1
  have hBw : w.heap.size ≤ B := by omega
  have hBY : B ≤ Y.heap.size := by rw [eY, eB]; simp
  clear hb1 ho1 hc1 eY eB HB0 HO0 HC0
  go_loopw [7] (fun i wr => ∃ k : Nat, i = .int .i64 k ∧ k ≤ t.size ∧ Lib.IsBuilder 163 5 B B (Lib.byteCells (hexL (h.take k))) wr ∧ Only NoneOf w wr ∧ B ≤ wr.heap.size ∧ (k = 0 → wr.cell? ⟨B, 1, none⟩ = some (.slice none 0 0))) (fun i _ => t.size - (intOf i).toNat)
  case atStart => exact ⟨0, rfl, by omega, by simpa [hexL, Lib.byteCells] using HB1.out, HO1.out, hBY, fun _ => HC1.out⟩
  case round =>
    obtain ⟨k, rfl, hk, hb, ho, hB, hz⟩ := hrel
    have HB := Lib.hid hb
    have HO := Lib.hid ho
    have HZ := Lib.hid hz
    clear hb ho hz
    by_cases hlt : k < t.size
    · obtain ⟨x, hx⟩ : ∃ x, h[k]? = some x := ⟨_, List.getElem?_eq_getElem (by have := HLEN.out; omega)⟩
      have hix : t.data[k]? = some x := by have e := EH.out; rw [e] at hx; simpa using hx
      have hnx : hexL (h.take (k + 1)) = hexL (h.take k) ++ [hexC (x.toNat / 16)] ++ [hexC (x.toNat % 16)] := by
        rw [List.take_add_one, hx, Option.toList_some, hexL_snoc]
      have hlk : (hexL (h.take k)).length ≤ 2000000 := by rw [hexL_len, List.length_take]; have := HL.out; omega
      have hx256 := x.toNat_lt
      have ik : (k : Int) < t.size := by omega
      have hk6 : k ≤ 1000000 := by have := HL.out; omega
      have hts : t[k]'hlt = x := by
        have e : t.data[k]? = some (t[k]'hlt) := Array.getElem?_eq_getElem _
        rw [hix] at e
        exact (Option.some.inj e).symm
      have HNX := Lib.hid hnx
      clear hnx hx hix
      go_wp2_with fail
      refine (wwb_any HB.out (by omega) hB).mono ?_
      rintro e w1 ⟨rfl, hb1, hbel1⟩
      rw [hexD_idx] at hb1
      have ho1 := HO.out.below' hbel1 hBw
      have hB1 : B ≤ w1.heap.size := Nat.le_trans hB hbel1.size
      have HB1 := Lib.hid hb1
      have HO1 := Lib.hid ho1
      clear hb1 ho1 hbel1
      go_wp2_with fail
      refine (wwb_any HB1.out (by rw [List.length_append, List.length_singleton]; omega) hB1).mono ?_
      rintro e w2 ⟨rfl, hb2, hbel2⟩
      rw [hexD_idx, ← HNX.out] at hb2
      have ho2 := HO1.out.below' hbel2 hBw
      have hB2 : B ≤ w2.heap.size := Nat.le_trans hB1 hbel2.size
      have HB2 := Lib.hid hb2
      have HO2 := Lib.hid ho2
      clear hb2 ho2 hbel2
      go_wp2_with fail
      go_roundw
      case rel => exact ⟨k + 1, by go_num, by omega, HB2.out, HO2.out, hB2, fun h => by omega⟩
      case measure => simp [intOf]; omega
    · have hall : h.take k = h := List.take_of_length_le (by have := HLEN.out; omega)
      rw [hall] at HB
      have ik : ¬ (k : Int) < t.size := by omega
      clear hall
      by_cases hk0 : k = 0
      · have hh : h = [] := List.eq_nil_of_length_eq_zero (by have := HLEN.out; omega)
        have hc := HZ.out hk0
        have HC := Lib.hid hc
        clear hc HZ
        go_wp2_with fail
        refine (wstring_none HC.out).mono ?_
        rintro e w1 ⟨rfl, hon⟩
        have HO1 := Lib.hid (HO.out.trans hon)
        clear hon
        go_wp2_with fail
        go_ret
        exact RetStr.mk (by rw [hh]; rfl) HO1.out
      · have hh : hexL h ≠ [] := fun e => by
          have e2 := congrArg List.length e
          rw [hexL_len] at e2
          have := HLEN.out
          simp only [List.length_nil] at e2
          omega
        have HH := Lib.hid hh
        clear hh HZ
        go_wp2_with fail
        refine (wstring_any HB.out HH.out).mono ?_
        rintro e w1 ⟨rfl, hbel⟩
        have HO1 := Lib.hid (HO.out.below' hbel hBw)
        clear hbel
        go_wp2_with fail
        go_ret
        exact RetStr.mk (by simp) HO1.out
end Go.Proofs.YtgalfohobgjelaaGreatDoor
namespace Go.Proofs.YtgalfohobgjelaaGreatDoor
open Go.RowKit Go.Shelf
abbrev tWr : TypeId := 163
/-- The writer at block b holds the bytes l in a block of its own, at C or above. -/
def WB (C b : Nat) (p : Value) (l : List UInt8) (w : World) : Prop := b < C ∧ C ≤ w.heap.size ∧ ∃ v, Blk w b tWr #[p, v] ∧ w.ownsRow C 5 1 v l.length (Lib.byteCells l)
abbrev selfP (b : Nat) : Value := .pointer (some ⟨b, 0, none⟩)
def WBu (C b : Nat) (l : List UInt8) (w : World) : Prop := WB C b (.pointer none) l w ∨ WB C b (selfP b) l w
/-- What the writer may change. -/
def WS (C b : Nat) : Nat → Prop := fun k => k = b ∨ C ≤ k
theorem WB.at_ {C b : Nat} {p : Value} {l : List UInt8} {w : World} (h : WB C b p l w) : Lib.BuilderAt tWr 5 b b p (Lib.byteCells l) w := by
  obtain ⟨h1, h2, v, hb, ho⟩ := h
  refine ⟨Nat.le_refl _, v, hb, ?_, fun e => by have := (own_ge ho e).1; omega⟩
  rw [Lib.byteCells_length]
  obtain ⟨hl, ho⟩ := ho
  refine ⟨hl, ?_⟩
  rcases ho with h | ⟨g, cap, cur, e1, e2, r⟩
  · exact .inl h
  · exact .inr ⟨g, cap, cur, e1, by omega, r⟩
theorem WB.none_ {C b : Nat} {p : Value} {l : List UInt8} {w w' : World} (h : WB C b p l w) (ho : Only NoneOf w w') : WB C b p l w' := by
  obtain ⟨h1, h2, v, hb, hw⟩ := h
  exact ⟨h1, Nat.le_trans h2 ho.size, v, hb.only ho (fun h => h.elim), own_only hw ho (fun _ _ h => h.elim)⟩
theorem WBu.none_ {C b : Nat} {l : List UInt8} {w w' : World} (h : WBu C b l w) (ho : Only NoneOf w w') : WBu C b l w' := h.imp (·.none_ ho) (·.none_ ho)
theorem WB.put {C b : Nat} {p : Value} {l : List UInt8} {w : World} (h : WB C b p l w) : WB C b (selfP b) l (w.setCell ⟨b, 0, none⟩ (selfP b)) := by
  obtain ⟨h1, h2, v, hb, hw⟩ := h
  refine ⟨h1, by simpa using h2, v, Blk.set_ hb 0 _, own_far hw (p := ⟨b, 0, none⟩) (fun e => by have := (own_ge hw e).1; simp only at this; omega) _⟩
set_option maxRecDepth 100000 in
set_option maxHeartbeats 400000 in
theorem ccheckC {C b : Nat} {l : List UInt8} {w : World} (h : WBu C b l w) :
    Calls Tryz.prog 179 #[.pointer (some ⟨b, 0, none⟩)] w fun e w' => e = .returned (.tuple #[]) ∧ WB C b (selfP b) l w' ∧ Only (WS C b) w w' := by
  obtain ⟨j, hj, hjs⟩ := Option.map_eq_some_iff.1 size_builder
  rcases h with h0 | h0
  · have h := h0.at_
    have c0 := h.cell0
    have f0 := h.frozen0
    have hsh := h.shape
    have hto := fun W (hW : World.shape? W b = some (163, 2)) => Lib.run_to_unsafe (P := Tryz.prog) W ⟨b, 0, none⟩ Tryz.underlying159 Tryz.underlying239 hj (by rw [hjs]; decide) hW (Nat.zero_lt_succ 1)
    have hfr := Lib.run_from_unsafe (P := Tryz.prog) w ⟨b, 0, none⟩ Tryz.underlying239 Tryz.underlying159 hj hsh lies_writer
    have h1 := hto w hsh
    have HH := Lib.hid h0
    clear h hto hsh h0
    go_enter Tryz.func179, Tryz.ntmps179
    go_wp2_with fail
    rw [run_callFunc_extern Tryz.func195 (by kernel_rfl) (by kernel_rfl) (by kernel_rfl) (e := Extern.AbiNoEscape.same) (by kernel_rfl)]
    rw [Lib.run_noEscape]
    simp only [Result.andThen]
    rw [Oper.upon_value]
    go_wp2_with fail
    go_end0
    exact ⟨rfl, HH.out.put, (Only.refl _ _).setCell (p := ⟨b, 0, none⟩) (.inl (.inl rfl)) _⟩
  · have c0 := h0.at_.cell0
    have hne := Lib.run_neq_ptr_same (P := Tryz.prog) w ⟨b, 0, none⟩ Tryz.underlying159 hj
    have HH := Lib.hid h0
    clear h0
    go_enter Tryz.func179, Tryz.ntmps179
    go_wp2_with fail
    go_end0
    exact ⟨rfl, HH.out, Only.refl _ _⟩
set_option maxRecDepth 100000 in
set_option maxHeartbeats 400000 in
theorem wwriteC {C b : Nat} {l : List UInt8} {s : ByteArray} {w : World} (h : WBu C b l w) (hlen : l.length + s.size ≤ 140737488355328) :
    Calls Tryz.prog 155 #[.pointer (some ⟨b, 0, none⟩), .string s] w fun e w' => e = .returned (.tuple #[.int .i64 s.size, .nilIface]) ∧ WB C b (selfP b) (l ++ s.data.toList) w' ∧ Only (WS C b) w w' := by
  obtain ⟨i0, hi, hz0, hz1, hz2⟩ := info_parts Tryz.info5
  have H := Lib.hid h
  clear h
  go_enter Tryz.func155, Tryz.ntmps155
  go_wp2_with fail
  refine (ccheckC H.out).mono ?_
  rintro e w1 ⟨rfl, h1, hb1⟩
  obtain ⟨hbC, hCs, v, hbk, hown⟩ := h1
  have c1 : w1.cell? ⟨b, 1, none⟩ = some v := hbk.cell 1
  have hne : v.ownBlock ≠ some b := fun e => by have := (own_ge hown e).1; omega
  have HBK := Lib.hid hbk
  have HOWN := Lib.hid hown
  have HNE := Lib.hid hne
  have HB1 := Lib.hid hb1
  clear hbk hown hne hb1
  go_wp2_with (at_builtin; refine Lib.wpList_append_own_string _ rfl _ _ 22 9 rfl C 5 i0 Tryz.underlying22 Tryz.underlying9 hi hz0 hz1 hz2 _ _ _ rfl HOWN.out s rfl (by unfold maxLen; omega) (by omega) (by omega) ?_; intro v' w2 hown' hgrow _; have hb2 : Blk w2 b tWr #[selfP b, v] := HBK.out.grown hgrow (fun e => HNE.out e.symm); obtain ⟨ao, cap, hv', hcc, hcm⟩ := own_form' hown'; subst hv'; have d1 := hb2.cell 1; have f1 := hb2.frozen 1; have HB2 := Lib.hid hb2; have HOW2 := Lib.hid hown'; have HGR := Lib.hid hgrow; clear hb2 hown' hgrow)
  go_ret2
  refine ⟨rfl, ?_, ?_⟩
  · have hw := HOW2.out
    have hne2 : (Value.slice ao (l.length + s.size) cap).ownBlock ≠ some b := fun e => by have := (own_ge hw e).1; omega
    refine ⟨hbC, by have := HGR.out.size; simp; omega, _, Blk.set_ HB2.out 1 _, ?_⟩
    have e : Lib.byteCells (l ++ s.data.toList) = Lib.byteCells l ++ Lib.strCells s := by simp [Lib.byteCells, Lib.strCells]
    rw [List.length_append, e, ← size_list]
    exact own_far hw (p := ⟨b, 1, none⟩) hne2 _
  · exact (HB1.out.grown HGR.out (fun k hk => .inl (.inr (own_ge HOWN.out hk).1))).setCell (p := ⟨b, 1, none⟩) (.inl (.inl rfl)) _
/-- Ints that lie apart from the writer. -/
def IntsW (C b : Nat) (A : Option Addr) (ns : List Int) (w : World) : Prop := ns = [] ∨ ∃ g o, A = some ⟨g, o, none⟩ ∧ g < C ∧ g ≠ b ∧ g < w.heap.size ∧ ∀ (j : Nat) (x : Int), ns[j]? = some x → w.cell? ⟨g, o + j, none⟩ = some (.int .i64 x)
theorem IntsW.keep {C b : Nat} {A : Option Addr} {ns : List Int} {w w' : World} (h : IntsW C b A ns w) (ho : Only (WS C b) w w') : IntsW C b A ns w' := by
  rcases h with h | ⟨g, o, hA, h1, h2, h3, h4⟩
  · exact .inl h
  · refine .inr ⟨g, o, hA, h1, h2, Nat.lt_of_lt_of_le h3 ho.size, fun j x hx => ?_⟩
    exact ho.cell_some (h4 j x hx) (fun h => by rcases h with h | h <;> simp only at h <;> omega)
theorem tab_ws {C b : Nat} {w w' : World} (h : Tab w) (hb : 3 < b) (hC : b < C) (ho : Only (WS C b) w w') : Tab w' := h.only ho (fun k hk => by rcases hk with hk | hk <;> omega)
theorem wordsN_snoc (l : List Int) (x : Int) : wordsN (l ++ [x]) = wordsN l ++ [32] ++ Lib.itoa x := by simp [wordsN]
theorem wordsN_len : ∀ (l : List Int), (∀ x ∈ l, In x) → (wordsN l).length ≤ 22 * l.length
  | [], _ => by simp [wordsN]
  | x :: l, h => by
    have h1 := wordsN_len l (fun y hy => h y (by simp [hy]))
    have h2 := itoa_len (h x (by simp)).1 (h x (by simp)).2
    have e : wordsN (x :: l) = (32 :: Lib.itoa x) ++ wordsN l := rfl
    rw [e, List.length_append, List.length_cons, List.length_cons]
    omega
set_option maxRecDepth 100000 in
set_option maxHeartbeats 1000000 in
theorem line_any {C b : Nat} {l : List UInt8} (word : ByteArray) (hwd : word.size ≤ 10000000) {A : Option Addr} {cap : Nat} {ns : List Int} {w : World} (h : WBu C b l w) (hns : ns.length ≤ 1000000) (hin : ∀ x ∈ ns, In x) (hA : IntsW C b A ns w) (ht : Tab w) (hgb : 3 < b) (hlen : l.length ≤ 1000000000) :
    Calls Tryz.prog 109 #[.pointer (some ⟨b, 0, none⟩), .string word, .slice A ns.length cap] w fun e w' => e = .returned (.tuple #[]) ∧ WB C b (selfP b) (l ++ lineL word.data.toList ns) w' ∧ Only (WS C b) w w' := by
  have hmf : ∀ (fn : Fn) (first cap : Array Value) (w : World), (Instr.makeFunc fn first cap).run Tryz.prog w = .ok (.func fn first cap) w := fun _ _ _ _ => rfl
  have hbC : b < C := by rcases h with h | h <;> exact h.1
  have H := Lib.hid h
  have q32 : (⟨#[32]⟩ : ByteArray).size = 1 := rfl
  have q10 : (⟨#[10]⟩ : ByteArray).size = 1 := rfl
  have HIN := Lib.hid hin
  have HA := Lib.hid hA
  have HT := Lib.hid ht
  have hwl : word.data.toList.length = word.size := by rw [size_list]
  clear h hin hA ht
  go_enter Tryz.func109, Tryz.ntmps109
  go_wp2_with fail
  refine (wwriteC H.out (by omega)).mono ?_
  rintro e w1 ⟨rfl, h1, ho1⟩
  have H1 := Lib.hid h1
  have HO1 := Lib.hid ho1
  clear h1 ho1
  go_wp2_with fail
  go_loopw [18] (fun i wr => ∃ k : Nat, i = .int .i64 k ∧ k ≤ ns.length ∧ WB C b (selfP b) (l ++ (word.data.toList ++ wordsN (ns.take k))) wr ∧ Only (WS C b) w wr) (fun i _ => ns.length - (intOf i).toNat)
  case atStart => exact ⟨0, rfl, by omega, by simpa [wordsN] using H1.out, HO1.out⟩
  case round =>
    obtain ⟨k, rfl, hk, hb, ho⟩ := hrel
    have HB := Lib.hid hb
    have HO := Lib.hid ho
    clear hb ho
    have hwk : (wordsN (ns.take k)).length ≤ 22 * k := by
      have := wordsN_len (ns.take k) (fun x hx => HIN.out x (List.mem_of_mem_take hx))
      rw [List.length_take] at this
      omega
    by_cases hlt : k < ns.length
    · obtain ⟨x, hx⟩ : ∃ x, ns[k]? = some x := ⟨_, List.getElem?_eq_getElem hlt⟩
      have hmem : x ∈ ns := List.mem_of_getElem? hx
      have hxi := HIN.out x hmem
      obtain ⟨g, o, rfl, hc⟩ : ∃ g o, A = some ⟨g, o, none⟩ ∧ wr.cell? ⟨g, o + k, none⟩ = some (.int .i64 x) := by
        rcases HA.out.keep HO.out with h | ⟨g, o, e, _, _, _, hc⟩
        · rw [h] at hlt; simp at hlt
        · exact ⟨g, o, e, hc k x hx⟩
      have hnx : wordsN (ns.take (k + 1)) = wordsN (ns.take k) ++ [32] ++ Lib.itoa x := by rw [List.take_add_one, hx, Option.toList_some, wordsN_snoc]
      have ik : (k : Int) < ns.length := by omega
      have HNX := Lib.hid hnx
      clear hnx hx hmem
      go_wp2_with fail
      refine (wwriteC (.inr HB.out) (by simp; omega)).mono ?_
      rintro e w2 ⟨rfl, h2, ho2⟩
      have H2 := Lib.hid h2
      have HO2 := Lib.hid (HO.out.trans ho2)
      have HT2 := Lib.hid (tab_ws HT.out hgb hbC HO2.out)
      clear h2 ho2
      go_wp2_with fail
      refine (itoa_any x hxi.1 hxi.2 w2 HT2.out).mono ?_
      rintro e w3 ⟨t3, rfl, ht3, ho3⟩
      have H3 := Lib.hid (H2.out.none_ ho3)
      have HO3 := Lib.hid (HO2.out.trans' ho3 (fun _ _ h => h.elim))
      have hz3 : t3.size ≤ 21 := by rw [size_list, ht3]; exact itoa_len hxi.1 hxi.2
      have HT3 := Lib.hid ht3
      clear ho3 ht3
      go_wp2_with fail
      refine (wwriteC (.inr H3.out) (by simp; omega)).mono ?_
      rintro e w4 ⟨rfl, h4, ho4⟩
      have H4 := Lib.hid h4
      have HO4 := Lib.hid (HO3.out.trans ho4)
      clear h4 ho4
      go_wp2_with fail
      go_roundw
      case rel => exact ⟨k + 1, by go_num, by omega, by have := H4.out; rw [HT3.out] at this; rw [HNX.out]; simpa using this, HO4.out⟩
      case measure => simp [intOf]; omega
    · have hall : ns.take k = ns := List.take_of_length_le (by omega)
      rw [hall] at HB hwk
      have ik : ¬ (k : Int) < ns.length := by omega
      clear hall
      go_wp2_with fail
      refine (wwriteC (.inr HB.out) (by simp; omega)).mono ?_
      rintro e w2 ⟨rfl, h2, ho2⟩
      have H2 := Lib.hid h2
      have HO2 := Lib.hid (HO.out.trans ho2)
      clear h2 ho2
      go_wp2_with fail
      go_end0
      exact ⟨rfl, by have := H2.out; unfold lineL; simpa using this, HO2.out⟩
end Go.Proofs.YtgalfohobgjelaaGreatDoor
namespace Go.Proofs.YtgalfohobgjelaaGreatDoor
open Go.RowKit Go.Shelf
/-- Ints behind an address. -/
def IntSl (w : World) (A : Option Addr) (ns : List Int) : Prop := ns = [] ∨ ∃ g o, A = some ⟨g, o, none⟩ ∧ g < w.heap.size ∧ ∀ (j : Nat) (x : Int), ns[j]? = some x → w.cell? ⟨g, o + j, none⟩ = some (.int .i64 x)
theorem IntSl.none_ {w w' : World} {A : Option Addr} {ns : List Int} (h : IntSl w A ns) (ho : Only NoneOf w w') : IntSl w' A ns := by
  rcases h with h | ⟨g, o, hA, h1, h2⟩
  · exact .inl h
  · exact .inr ⟨g, o, hA, Nat.lt_of_lt_of_le h1 ho.size, fun j x hx => ho.cell_some (h2 j x hx) (fun h => h.elim)⟩
theorem IntSl.wr {w w' : World} {A : Option Addr} {ns : List Int} (h : IntSl w A ns) (ho : Only NoneOf w w') {C b : Nat} (hb : w.heap.size ≤ b) (hC : b < C) : IntsW C b A ns w' := by
  rcases h with h | ⟨g, o, hA, h1, h2⟩
  · exact .inl h
  · exact .inr ⟨g, o, hA, by omega, by omega, Nat.lt_of_lt_of_le h1 ho.size, fun j x hx => ho.cell_some (h2 j x hx) (fun h => h.elim)⟩
structure Bd.Ok (b : Bd) : Prop where
  id : In b.bidder
  qi : ∀ x ∈ b.qc, In x
  pi : ∀ x ∈ b.pc, In x
  qt : b.qt.size ≤ 1000000
  pt : b.pt.size ≤ 1000000
  ql : b.qc.length ≤ 1000000
  pl : b.pc.length ≤ 1000000
theorem lineL_len (word : List UInt8) (l : List Int) (h : ∀ x ∈ l, In x) : (lineL word l).length ≤ word.length + 22 * l.length + 1 := by
  have := wordsN_len l h
  unfold lineL
  simp only [List.length_append, List.length_singleton]
  omega
theorem tab_lt {X : World} (h : Tab X) : 3 < X.heap.size := by
  have hgl : Tryz.prog.globalNamed pow10 = some 3 := by kernel_rfl
  unfold Tab Lib.TabIs World.var? at *
  rw [hgl] at h
  simp only [Option.bind_some] at h
  cases hx : X.heap[3]? with
  | none => rw [hx] at h; cases h
  | some o => exact (Array.getElem?_eq_some_iff.1 hx).1
abbrev tBid : TypeId := 75
/-- What the writing of a bid keeps. -/
structure EncK (w : World) (R b C : Nat) (cs : Array Value) (l : List UInt8) (W : World) : Prop where
  wr : WBu C b l W
  box : Blk W R tBid cs
  only : Only NoneOf w W
theorem EncK.step {w : World} {R b C : Nat} {cs : Array Value} {l l' : List UInt8} {W W' : World} (h : EncK w R b C cs l W) (hRb : R < b) (hwb : w.heap.size ≤ b) (hbC : b < C) (hW : WB C b (selfP b) l' W') (ho : Only (WS C b) W W') : EncK w R b C cs l' W' :=
  ⟨.inr hW, h.box.only ho (fun hk => by rcases hk with hk | hk <;> omega), h.only.trans' ho (fun i hi hk => by rcases hk with hk | hk <;> omega)⟩
theorem EncK.none_ {w : World} {R b C : Nat} {cs : Array Value} {l : List UInt8} {W W' : World} (h : EncK w R b C cs l W) (ho : Only NoneOf W W') : EncK w R b C cs l W' :=
  ⟨h.wr.none_ ho, h.box.only ho (fun h => h.elim), h.only.trans ho⟩
abbrev bdCells (d : Bd) (qA pA : Option Addr) (qk pk : Nat) : Array Value := #[.int .i64 d.bidder, .string d.qt, .slice qA d.qc.length qk, .string d.pt, .slice pA d.pc.length pk]
set_option maxRecDepth 100000 in
set_option maxHeartbeats 1000000 in
theorem bencode_any (d : Bd) (hd : d.Ok) {qA pA : Option Addr} {qk pk : Nat} {w : World} (hq : IntSl w qA d.qc) (hp : IntSl w pA d.pc) (ht : Tab w) :
    Calls Tryz.prog 64 #[.agg (bdCells d qA pA qk pk)] w (RetStr (encB d) w) := by
  obtain ⟨hid, hqi, hpi, hqt, hpt, hql, hpl⟩ := hd
  obtain ⟨R, eR⟩ : ∃ R, R = w.heap.size := ⟨_, rfl⟩
  obtain ⟨b, eb⟩ : ∃ b, b = R + 1 := ⟨_, rfl⟩
  obtain ⟨G, eG⟩ : ∃ G, G = b + 1 := ⟨_, rfl⟩
  obtain ⟨C, eC⟩ : ∃ C, C = G + 1 := ⟨_, rfl⟩
  obtain ⟨X, eX⟩ : ∃ X, X = ((w.alloc (.cells (bdCells d qA pA qk pk) tBid)).alloc (.cells #[.pointer none, .slice none 0 0] tWr)).alloc (.cells #[.int .i64 d.bidder] 3) := ⟨_, rfl⟩
  have hb0 : Blk X R tBid (bdCells d qA pA qk pk) := by rw [eX, eR]; exact ((Blk.new w _ _).alloc _).alloc _
  have hb1 : Blk X b tWr #[.pointer none, .slice none 0 0] := by
    have h := Blk.new (w.alloc (.cells (bdCells d qA pA qk pk) tBid)) tWr #[.pointer none, .slice none 0 0]
    rw [World.size_alloc, ← eR, ← eb] at h
    rw [eX]; exact h.alloc _
  have hb2 : Blk X G 3 #[.int .i64 d.bidder] := by
    have h := Blk.new ((w.alloc (.cells (bdCells d qA pA qk pk) tBid)).alloc (.cells #[.pointer none, .slice none 0 0] tWr)) 3 #[.int .i64 d.bidder]
    rw [World.size_alloc, World.size_alloc, ← eR, ← eb, ← eG] at h
    rw [eX]; exact h
  have hsz : X.heap.size = C := by rw [eX]; simp; omega
  have hon : Only NoneOf w X := by rw [eX]; exact (((Only.refl _ _).alloc _).alloc _).alloc _
  have hgb : 3 < b := by have := tab_lt ht; omega
  have hK : EncK w R b C (bdCells d qA pA qk pk) [] X := ⟨.inl ⟨by omega, by omega, _, hb1, ⟨rfl, .inl ⟨rfl, rfl⟩⟩⟩, hb0, hon⟩
  have hI : IntsW C b (some ⟨G, 0, none⟩) [d.bidder] X := .inr ⟨G, 0, rfl, by omega, by omega, by omega, fun j x hx => by
    match j, hx with
    | 0, hx => simp only [List.getElem?_cons_zero, Option.some.injEq] at hx; subst hx; exact hb2.cell 0⟩
  have HK := Lib.hid hK
  have HI := Lib.hid hI
  have HQ := Lib.hid hq
  have HP := Lib.hid hp
  have HT := Lib.hid ht
  have HQI := Lib.hid hqi
  have HPI := Lib.hid hpi
  have hbC : b < C := by omega
  have hRb : R < b := by omega
  have hwb : w.heap.size ≤ b := by omega
  have HEX := Lib.hid eX
  have HER := Lib.hid eR
  have HEB := Lib.hid eb
  have HEG := Lib.hid eG
  clear hK hI hq hp ht hqi hpi hb0 hb1 hb2 hon hsz eX eR eb eG eC
  have LB := lineL_len wBid [d.bidder] (fun x hx => by simp at hx; subst hx; exact hid)
  have LQ := lineL_len wQuality d.qc HQI.out
  have LQT := lineL_len (hexL d.qt.data.toList) [] (fun x hx => by simp at hx)
  have LP := lineL_len wPrice d.pc HPI.out
  rw [hexL_len, ← size_list] at LQT
  have q1 : wBid.length = 3 := rfl
  have q2 : wQuality.length = 7 := rfl
  have q3 : wPrice.length = 5 := rfl
  simp only [List.length_cons, List.length_nil] at LB LQT
  go_enter Tryz.func64, Tryz.ntmps64
  go_wp2_with fail
  rw [← HEX.out, ← HER.out, ← HEB.out, ← HEG.out]
  refine (line_any (C := C) (ns := [d.bidder]) _ (by decide) HK.out.wr (by simp) (fun x hx => by simp at hx; subst hx; exact hid) HI.out (HT.out.none HK.out.only) hgb (by simp)).mono ?_
  rintro e w1 ⟨rfl, h1, ho1⟩
  replace h1 : WB C b (selfP b) ([] ++ lineL wBid [d.bidder]) w1 := h1
  have K1 := Lib.hid (HK.out.step hRb hwb hbC h1 ho1)
  clear h1 ho1
  have c2 := K1.out.box.cell 2
  simp only [List.getElem?_toArray, List.getElem?_cons_zero, List.getElem?_cons_succ] at c2
  go_wp2_with fail
  refine (line_any (C := C) (ns := d.qc) _ (by decide) K1.out.wr (by omega) HQI.out (HQ.out.wr K1.out.only hwb hbC) (HT.out.none K1.out.only) hgb (by simp only [List.length_append, List.length_nil]; omega)).mono ?_
  rintro e w2 ⟨rfl, h2, ho2⟩
  replace h2 : WB C b (selfP b) ([] ++ lineL wBid [d.bidder] ++ lineL wQuality d.qc) w2 := h2
  have K2 := Lib.hid (K1.out.step hRb hwb hbC h2 ho2)
  clear h2 ho2 c2
  have c1 := K2.out.box.cell 1
  simp only [List.getElem?_toArray, List.getElem?_cons_zero, List.getElem?_cons_succ] at c1
  go_wp2_with fail
  refine (bhex_any d.qt hqt w2).mono ?_
  rintro e w3 ⟨t3, rfl, ht3, ho3⟩
  have K3 := Lib.hid (K2.out.none_ ho3)
  have L3 : t3.size ≤ 2000000 := by rw [size_list, ht3, hexL_len, ← size_list]; omega
  have HT3 := Lib.hid ht3
  clear ho3 c1 ht3
  go_wp2_with fail
  refine (line_any (C := C) (ns := []) t3 (by omega) K3.out.wr (by simp) (fun x hx => by simp at hx) (.inl rfl) (HT.out.none K3.out.only) hgb (by simp only [List.length_append, List.length_nil]; omega)).mono ?_
  rintro e w4 ⟨rfl, h4, ho4⟩
  rw [HT3.out] at h4
  replace h4 : WB C b (selfP b) ([] ++ lineL wBid [d.bidder] ++ lineL wQuality d.qc ++ lineL (hexL d.qt.data.toList) []) w4 := h4
  have K4 := Lib.hid (K3.out.step hRb hwb hbC h4 ho4)
  clear h4 ho4
  have c4 := K4.out.box.cell 4
  simp only [List.getElem?_toArray, List.getElem?_cons_zero, List.getElem?_cons_succ] at c4
  go_wp2_with fail
  refine (line_any (C := C) (ns := d.pc) _ (by decide) K4.out.wr (by omega) HPI.out (HP.out.wr K4.out.only hwb hbC) (HT.out.none K4.out.only) hgb (by simp only [List.length_append, List.length_nil]; omega)).mono ?_
  rintro e w5 ⟨rfl, h5, ho5⟩
  replace h5 : WB C b (selfP b) ([] ++ lineL wBid [d.bidder] ++ lineL wQuality d.qc ++ lineL (hexL d.qt.data.toList) [] ++ lineL wPrice d.pc) w5 := h5
  have K5 := Lib.hid (K4.out.step hRb hwb hbC h5 ho5)
  clear h5 ho5 c4
  have c3 := K5.out.box.cell 3
  simp only [List.getElem?_toArray, List.getElem?_cons_zero, List.getElem?_cons_succ] at c3
  go_wp2_with fail
  refine (bhex_any d.pt hpt w5).mono ?_
  rintro e w6 ⟨t6, rfl, ht6, ho6⟩
  have K6 := Lib.hid (K5.out.none_ ho6)
  have L6 : t6.size ≤ 2000000 := by rw [size_list, ht6, hexL_len, ← size_list]; omega
  have HT6 := Lib.hid ht6
  clear ho6 c3 ht6
  go_wp2_with fail
  refine (line_any (C := C) (ns := []) t6 (by omega) K6.out.wr (by simp) (fun x hx => by simp at hx) (.inl rfl) (HT.out.none K6.out.only) hgb (by simp only [List.length_append, List.length_nil]; omega)).mono ?_
  rintro e w7 ⟨rfl, h7, ho7⟩
  rw [HT6.out] at h7
  have HE7 : Hid (WB C b (selfP b) (encB d) w7) := Lib.hid (by have h := h7; simp only [List.nil_append, List.append_assoc] at h; unfold encB; simp only [List.append_assoc]; exact h)
  have K7 := Lib.hid (K6.out.step hRb hwb hbC h7 ho7)
  clear h7 ho7
  go_wp2_with fail
  refine (wstring_any (B := b) (l := encB d) (.inr HE7.out.at_) (fun e => by have e2 := congrArg List.length e; simp [encB, lineL, wBid] at e2)).mono ?_
  rintro e w8 ⟨rfl, hbel⟩
  have HO8 := Lib.hid (K7.out.only.below' hbel hwb)
  clear hbel
  go_wp2_with fail
  go_ret
  exact RetStr.mk (by simp) HO8.out
end Go.Proofs.YtgalfohobgjelaaGreatDoor
namespace Go.Proofs.YtgalfohobgjelaaGreatDoor
open Go.RowKit Go.Shelf
attribute [local go_sem ↓ high] suStore_eq
abbrev tWd : TypeId := 24
abbrev wdC (d : Wd) (kA : Option Addr) (kc : Nat) : Array Value := #[.int .u8 (d.off : Int), .slice kA d.kinds.length kc, .int .u8 (d.fork : Int)]
noncomputable def setI (d : Wd) (m : Nat) : List Pers := setB d.n ++ (List.range m).map (fun j => bidder (60 + j))
theorem setI_snoc (d : Wd) (m : Nat) : setI d (m + 1) = setI d m ++ [bidder (60 + m)] := by simp [setI, List.range_succ]
theorem setI_two (d : Wd) : setI d 2 = setW d := by simp [setI, setW, List.range_succ]
theorem setI_len (d : Wd) (m : Nat) : (setI d m).length = d.n + 1 + m := by simp [setI, setB_len]
/-- What the loop keeps. -/
structure StW (w : World) (R V : Nat) (d : Wd) (m : Nat) (pv : Value) (W : World) : Prop where
  res : Blk W R tSu #[.slice none 0 0, .int .i64 0, .slice none 0 0, .slice none 0 0, .int .i64 0, .int .i64 0]
  st : Blk W V tSu #[pv, .int .i64 0, .slice none 0 0, .slice none 0 0, .int .i64 0, .int .i64 0]
  own : PerOwn W w.heap.size pv (d.n + 1 + m) (setI d m)
  only : Only NoneOf w W
set_option maxRecDepth 100000 in
set_option maxHeartbeats 4000000 in
theorem wsetup_own (d : Wd) (hd : d.Ok) (kA : Option Addr) (kc : Nat) (w : World) : Calls Tryz.prog 18 #[.agg (wdC d kA kc)] w fun e' w' => ∃ pv, e' = .returned (setV pv) ∧ PerOwn w' w.heap.size pv (setW d).length (setW d) ∧ Only NoneOf w w' := by
  obtain ⟨ie, z, hie, hsz, hz, hzc, hby⟩ := pers_info3
  have ho := hd.off
  have hno : nOff (1 + (d.off : Int) % 7) = d.n := by unfold nOff Wd.n; omega
  have hsu : ∀ W, Calls Tryz.prog 44 #[.int .i64 (1 + (d.off : Int) % 7), .bool false] W fun e' w' => ∃ pv, e' = .returned (setV pv) ∧ PerOwn w' W.heap.size pv (d.n + 1) (setB d.n) ∧ Only NoneOf W w' := fun W => by
    have h := setup_own (1 + (d.off : Int) % 7) ⟨by omega, by omega⟩ W
    rw [hno] at h
    exact h
  have HSU := Lib.hid hsu
  have HIE := Lib.hid hie
  have HSZ := Lib.hid hsz
  have HZ := Lib.hid hz
  have HZC := Lib.hid hzc
  have HBY := Lib.hid hby
  clear hsu hie hsz hz hzc hby hno
  obtain ⟨R, eR⟩ : ∃ R, R = w.heap.size + 1 := ⟨_, rfl⟩
  have HER := Lib.hid eR
  have hwR1 : w.heap.size ≤ R := by omega
  have hres0 : Blk ((w.alloc (.cells (wdC d kA kc) tWd)).alloc (.cells #[.slice none 0 0, .int .i64 0, .slice none 0 0, .slice none 0 0, .int .i64 0, .int .i64 0] tSu)) R tSu #[.slice none 0 0, .int .i64 0, .slice none 0 0, .slice none 0 0, .int .i64 0, .int .i64 0] := by
    have h := Blk.new (w.alloc (.cells (wdC d kA kc) tWd)) tSu #[.slice none 0 0, .int .i64 0, .slice none 0 0, .slice none 0 0, .int .i64 0, .int .i64 0]
    rw [World.size_alloc, ← eR] at h
    exact h
  have hon0 : Only NoneOf w ((w.alloc (.cells (wdC d kA kc) tWd)).alloc (.cells #[.slice none 0 0, .int .i64 0, .slice none 0 0, .slice none 0 0, .int .i64 0, .int .i64 0] tSu)) := ((Only.refl _ _).alloc _).alloc _
  have HRES0 := Lib.hid hres0
  have HON0 := Lib.hid hon0
  clear eR hres0 hon0
  go_enter Tryz.func18, Tryz.ntmps18
  go_wp2_with fail
  refine (HSU.out _).mono ?_
  rintro e1 w1 ⟨pv0, rfl, hpo, hon⟩
  unfold setV
  obtain ⟨pA0, pcap0, rfl, hcc0, hcm0⟩ := own_form' hpo
  rw [← HER.out]
  obtain ⟨V, eV⟩ : ∃ V, V = w1.heap.size := ⟨_, rfl⟩
  have hszw : w.heap.size + 2 ≤ w1.heap.size := by have := hon.size; simp at this; omega
  have hst0 : Blk (w1.alloc (.cells #[.slice none 0 0, .int .i64 0, .slice none 0 0, .slice none 0 0, .int .i64 0, .int .i64 0] tSu)) V tSu #[.slice none 0 0, .int .i64 0, .slice none 0 0, .slice none 0 0, .int .i64 0, .int .i64 0] := by rw [eV]; exact Blk.new w1 _ _
  have hsr := su_store (n := d.n + 1) (c := pcap0) (A := pA0) hst0 rfl
  obtain ⟨X, eX⟩ : ∃ X, X = (w1.alloc (.cells #[.slice none 0 0, .int .i64 0, .slice none 0 0, .slice none 0 0, .int .i64 0, .int .i64 0] tSu)).setCells V 0 [.slice pA0 (d.n + 1) pcap0, .int .i64 0, .slice none 0 0, .slice none 0 0, .int .i64 0, .int .i64 0] := ⟨_, rfl⟩
  have hRV : R ≠ V := by have := HER.out; omega
  have hwV : w.heap.size ≤ V := by omega
  have hX : StW w R V d 0 (.slice pA0 (d.n + 1) pcap0) X := by
    have hbase : (w1.alloc (.cells #[.slice none 0 0, .int .i64 0, .slice none 0 0, .slice none 0 0, .int .i64 0, .int .i64 0] tSu)).ownsRow w.heap.size 67 3 (.slice pA0 (d.n + 1) pcap0) (d.n + 1) ((setB d.n).flatMap persC) := by
      have h := World.ownsRow.alloc hpo (.cells #[.slice none 0 0, .int .i64 0, .slice none 0 0, .slice none 0 0, .int .i64 0, .int .i64 0] tSu)
      obtain ⟨hl, h⟩ := h
      refine ⟨hl, ?_⟩
      rcases h with h | ⟨g, cap, cur, e1, e2, r⟩
      · exact .inl h
      · exact .inr ⟨g, cap, cur, e1, by simp at e2; omega, r⟩
    have hvne : (Value.slice pA0 (d.n + 1) pcap0).ownBlock ≠ some V := own_blk_ne hbase hst0 (by decide)
    refine ⟨?_, ?_, ?_, ?_⟩
    · rw [eX]
      exact Blk.farCells hRV _ 0 ((HRES0.out.only hon (fun h => h.elim)).alloc _)
    · rw [eX]; exact filled_whole hst0 rfl
    · rw [eX]
      have hi : setI d 0 = setB d.n := by simp [setI]
      unfold PerOwn
      rw [hi]
      exact own_only hbase (only_setCells (S := fun k => k = V) (Only.refl _ _) V 0 (.inl rfl) _) (fun k hk e => hvne (by rw [hk, e]))
    · rw [eX]; exact only_setCells ((HON0.out.trans hon).alloc _) V 0 (.inr hwV) _
  rw [eV] at hsr
  have HX := Lib.hid hX
  have HEX := Lib.hid eX
  have HEV := Lib.hid eV
  clear hpo hon hX eX eV hst0 HSU HRES0 HON0 hcc0 hcm0
  go_upto_region 2 with (fail)
  clear hsr
  rw [← HEV.out, ← HEX.out]
  refine wp_gen (StW w R V d 0 (.slice pA0 (d.n + 1) pcap0)) HX.out ?_
  intro Y hY
  have HY := Lib.hid hY
  clear hY HX
  go_wp2_with fail
  go_loopw [4] (fun i wr => ∃ (m : Nat) (pv : Value), i = .int .i64 ((60 + m : Nat) : Int) ∧ m ≤ 2 ∧ StW w R V d m pv wr) (fun i _ => 62 - (intOf i).toNat)
  case atStart => exact ⟨0, _, rfl, by omega, HY.out⟩
  case round =>
    obtain ⟨m, pv, rfl, hm2, hS⟩ := hrel
    obtain ⟨k, ek⟩ : ∃ k : Nat, k = 60 + m := ⟨_, rfl⟩
    rw [← ek]
    have hdn : d.n ≤ 7 := by unfold Wd.n; omega
    obtain ⟨N, eN⟩ : ∃ N, N = d.n + 1 + m := ⟨_, rfl⟩
    have hN : N ≤ 10 := by omega
    by_cases hlt : m < 2
    · have hle : (k : Int) < 62 := by omega
      obtain ⟨pk, epk⟩ : ∃ x : Int, x = (pub (secI k) : Int) := ⟨_, rfl⟩
      have hpc : persC (bidder k) = [.int .i64 (k : Int), .int .i64 4, .int .i64 pk] := by rw [epk]; rfl
      have hsec : ∀ W, Calls Tryz.prog 39 #[.int .i64 (k : Int)] W fun e' w' => e' = .returned (.int .i64 (secI (k : Int))) ∧ w' = W := fun W => secret_any (k : Int) (by omega) (by omega) W
      have hpub : ∀ W, Calls Tryz.prog 45 #[.int .i64 (secI (k : Int))] W fun e' w' => e' = .returned (.int .i64 pk) ∧ w' = W := fun W => by rw [epk]; exact rpub_any _ W
      have hcells : (setI d (m + 1)).flatMap persC = (setI d m).flatMap persC ++ [.int .i64 (k : Int), .int .i64 4, .int .i64 pk] := by
        rw [setI_snoc, List.flatMap_append, List.flatMap_cons, List.flatMap_nil, List.append_nil, ← ek, hpc]
      have c0 : wr.cell? ⟨V, 0, none⟩ = some pv := hS.st.cell 0
      have hSo := hS.own
      rw [← eN] at hSo
      have HS := Lib.hid hS
      have HSO := Lib.hid hSo
      have HSEC := Lib.hid hsec
      have HPUB := Lib.hid hpub
      have HCELLS := Lib.hid hcells
      have hall : ∀ o, ((wr.alloc o).drew).ownsRow w.heap.size 67 3 pv N ((setI d m).flatMap persC) := fun o => World.ownsRow.alloc HSO.out o
      have hne : pv.ownBlock ≠ some V := own_blk_ne HSO.out HS.out.st (by decide)
      have hneR : pv.ownBlock ≠ some R := own_blk_ne HSO.out HS.out.res (by decide)
      have hgr : ∀ o w1, (((wr.alloc o).drew).grownBy w1 pv.ownBlock) → Blk w1 V tSu #[pv, .int .i64 0, .slice none 0 0, .slice none 0 0, .int .i64 0, .int .i64 0] ∧ Blk w1 R tSu #[.slice none 0 0, .int .i64 0, .slice none 0 0, .slice none 0 0, .int .i64 0, .int .i64 0] ∧ Only NoneOf w w1 := fun o w1 hg =>
        ⟨((HS.out.st.alloc o).drew).grown hg (Ne.symm hne), ((HS.out.res.alloc o).drew).grown hg (Ne.symm hneR), ((HS.out.only.alloc o).drew).grown hg (fun j e => .inr (own_ge HSO.out e).1)⟩
      have HALL := Lib.hid hall
      have HGR := Lib.hid hgr
      have HSZZ := Lib.hid HS.out.only.size
      have ca : ∀ o, (wr.alloc o).cell? ⟨V, 0, none⟩ = some pv := fun o => (HS.out.st.alloc o).cell 0
      have HEK := Lib.hid ek
      have HEN := Lib.hid eN
      have hk62 : k ≤ 62 := by omega
      have HM := Lib.hid hlt
      clear hS hSo hsec hpub hcells hpc hall hne hneR hgr epk ek eN hlt hm2
      go_upto_region 5 with (fail)
      go_region_law (first
        | (refine step_append_lies _ (by rfl) _ _ _ (by rfl) w.heap.size 67 ie z 3 24 Tryz.underlying46 HIE.out HZ.out HSZ.out HBY.out HZC.out (by omega) pv N ((setI d m).flatMap persC) (by rfl) (HALL.out _) ⟨wr.heap.size, 0, none⟩ 1 1 [.int .i64 (k : Int), .int .i64 4, .int .i64 pk] (by rfl) (by rfl) (World.news_of_block (cs := #[.int .i64 (k : Int), .int .i64 4, .int .i64 pk]) (t := 67) (fr := (0, 0)) (heap_alloc_new wr _)) (by simp [Value.oneCell']) (by omega) (by rw [maxLen_val]; omega) (by omega) (by have := HSZZ.out; simp; omega) (wr.heap.size + 1) (by simp) ?_; intro g cap w1 hown1 hgrow hat hlt1; have hb1 := HGR.out _ w1 hgrow; have hf1 := hb1.1.frozen 0; have hc1 := hb1.1.cell 0; simp only [List.getElem?_toArray, List.getElem?_cons_zero] at hc1)
        | (go_simp; go_at_call 39; refine (HSEC.out _).mono ?_; rintro e1 w3 ⟨rfl, rfl⟩)
        | (go_simp; go_at_call 45; refine (HPUB.out _).mono ?_; rintro e2 w2 ⟨rfl, rfl⟩))
      all_goals
        have hgne : (Value.slice (some ⟨g, 0, none⟩) (N + 1) cap).ownBlock ≠ some V := own_blk_ne hown1 hb1.1 (by decide)
        have hnew : StW w R V d (m + 1) (.slice (some ⟨g, 0, none⟩) (N + 1) cap) (w1.setCell ⟨V, 0, none⟩ (.slice (some ⟨g, 0, none⟩) (N + 1) cap)) := by
          refine ⟨Blk.far (p := ⟨V, 0, none⟩) hb1.2.1 hRV _, Blk.set_ hb1.1 0 _, ?_, hb1.2.2.setCell (p := ⟨V, 0, none⟩) (.inr hwV) _⟩
          unfold PerOwn
          rw [HCELLS.out, show d.n + 1 + (m + 1) = N + 1 by have := HEN.out; omega]
          exact own_far hown1 (p := ⟨V, 0, none⟩) hgne _
        have HNEW := Lib.hid hnew
        clear hb1 hgne hnew hown1 hgrow hat hlt1 hf1 hc1 ca c0
        go_wp2_with fail
        go_roundw
        case rel => exact ⟨m + 1, _, by have := HEK.out; go_num, by have := HM.out; omega, HNEW.out⟩
        case measure => simp [intOf]; omega
    · obtain rfl : m = 2 := by omega
      have hle : ¬ (k : Int) < 62 := by omega
      have hown := hS.own
      rw [← eN] at hown
      obtain ⟨pA, pcap, rfl, _, _⟩ := own_form' hown
      have r0 := hS.res.cell 0
      have r1 := hS.res.cell 1
      have r2 := hS.res.cell 2
      have r3 := hS.res.cell 3
      have r4 := hS.res.cell 4
      have r5 := hS.res.cell 5
      have c0 := hS.st.cell 0
      have c1 := hS.st.cell 1
      have c2 := hS.st.cell 2
      have c3 := hS.st.cell 3
      have c4 := hS.st.cell 4
      have c5 := hS.st.cell 5
      simp only [List.getElem?_toArray, List.getElem?_cons_zero, List.getElem?_cons_succ] at c0 c1 c2 c3 c4 c5 r0 r1 r2 r3 r4 r5
      have hinf : (Tryz.prog.info? tSu).map (·.size) = some 6 := by kernel_rfl
      have hb2 : Blk (wr.setCells R 0 [.slice pA N pcap, .int .i64 0, .slice none 0 0, .slice none 0 0, .int .i64 0, .int .i64 0]) R tSu #[.slice pA N pcap, .int .i64 0, .slice none 0 0, .slice none 0 0, .int .i64 0, .int .i64 0] := filled_whole hS.res rfl
      have hst := su_store (n := N) (c := pcap) (A := pA) hS.res rfl
      have ho2 : Only NoneOf w (wr.setCells R 0 [.slice pA N pcap, .int .i64 0, .slice none 0 0, .slice none 0 0, .int .i64 0, .int .i64 0]) := only_setCells hS.only R 0 (.inr hwR1) _
      have hsl2 : PerOwn (wr.setCells R 0 [.slice pA N pcap, .int .i64 0, .slice none 0 0, .slice none 0 0, .int .i64 0, .int .i64 0]) w.heap.size (.slice pA N pcap) (setW d).length (setW d) := by
        have h1 := own_blk_ne hown hS.res (by decide)
        have h2 : PerOwn (wr.setCells R 0 [.slice pA N pcap, .int .i64 0, .slice none 0 0, .slice none 0 0, .int .i64 0, .int .i64 0]) w.heap.size (.slice pA N pcap) N (setI d 2) :=
          own_only hown (only_setCells (S := fun k => k = R) (Only.refl _ _) R 0 (.inl rfl) _) (fun k hk e => h1 (by rw [hk, e]))
        rw [← setI_two]
        rw [setI_len, ← eN]; exact h2
      have HB2 := Lib.hid hb2
      have HO2 := Lib.hid ho2
      have HSL := Lib.hid hsl2
      have HI := Lib.hid hinf
      clear hS hsl2 hb2 ho2 hinf hown eN hlt hm2
      go_wp2_with fail
      refine bodyPost_ret (v := .agg #[.slice pA N pcap, .int .i64 0, .slice none 0 0, .slice none 0 0, .int .i64 0, .int .i64 0]) (results_blk rfl rfl HB2.out Tryz.underlying50 rfl (by simpa using HI.out)) rfl ⟨_, rfl, HSL.out, HO2.out⟩
theorem wsetup_any (d : Wd) (hd : d.Ok) (kA : Option Addr) (kc : Nat) (w : World) : Calls Tryz.prog 18 #[.agg (wdC d kA kc)] w fun e' w' => ∃ pv, e' = .returned (setV pv) ∧ PerSl w' pv (setW d) ∧ Only NoneOf w w' :=
  (wsetup_own d hd kA kc w).mono (fun _ _ ⟨pv, h1, h2, h3⟩ => ⟨pv, h1, PerOwn.sl h2, h3⟩)
end Go.Proofs.YtgalfohobgjelaaGreatDoor
