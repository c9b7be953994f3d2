/- What is proved here: several parts. what the texts of a seat share: the library's table of powers of ten and its decimal texts, hashes as values, bytes turned into strings. Conditions: the table reads as its initialiser lays it. · a builder of strings that the call has made takes a string. Condition: what it holds is shorter than 2^47 bytes. -/
import Derived.Test.YtclpebgjmgfigaaGreatDoorM4
import Derived.Test.YtclpebgjmgfigaaGreatDoorM2
import Derived.Test.YtclpebgjmgfigaaGreatDoorShelf
import Derived.Stop.BytesEq
import Derived.Lib.Builder
import Derived.Lib.AppendStr
import Derived.Lib.Strings
namespace Go.Proofs.YtclpebgjmgfigaaGreatDoor
open Go.RowKit Go.Shelf
def pow10 : String := "internal/strconv.uint64pow10"
def Tab (w : World) : Prop := Lib.TabIs Tryz.prog w pow10 .u64 Lib.pow10Tab
theorem Tab.only {S : Nat → Prop} {w w' : World} (h : Tab w) (ho : Only S w w') (hS : ∀ k, S k → 3 < k) : Tab w' := by
  have hg : Tryz.prog.globalNamed pow10 = some 3 := by kernel_rfl
  unfold Tab Lib.TabIs World.var? at *
  rw [hg] at h ⊢
  simp only [Option.bind_some] at h ⊢
  have hlt : 3 < w.heap.size := by
    rcases Nat.lt_or_ge 3 w.heap.size with h1 | h1
    · exact h1
    · rw [Array.getElem?_eq_none h1] at h; cases h
  rw [ho.block _ hlt (fun hs => by have := hS _ hs; omega)]
  exact h
theorem Tab.none {w w' : World} (h : Tab w) (ho : Only NoneOf w w') : Tab w' := h.only ho (fun _ h => h.elim)
theorem only_grows (w : World) (k : Nat) (os : Array Obj) : Only NoneOf w (Sort.grow (w.drewN k) os) :=
  ⟨rfl, rfl, rfl, by simp [Sort.grow], fun i hi _ => by
    show (w.heap ++ os)[i]? = w.heap[i]?
    rw [Array.getElem?_append_left hi]⟩
theorem itoa_any (n : Int) (h0 : -9223372036854775808 ≤ n) (h1 : n ≤ 9223372036854775807) (w : World) (ht : Tab w) : Calls Tryz.prog 55 #[.int .i64 n] w (RetStr (Lib.itoa n) w) :=
  (Tryz.strconv_Itoa n h0 h1 w ht).mono fun e w' h => by
    obtain ⟨rfl, k, os, rfl⟩ := h
    exact RetStr.mk (by simp) (only_grows w k os)
/-- A hash as a value. -/
def hv (l : List UInt8) : Value := .agg (l.map bv).toArray
theorem shaL_len (l : List UInt8) : (shaL l).length = 32 := by simp [shaL, be4]
theorem grown_of_only {W W' : World} (ho : Only NoneOf W W') : W.grownBy W' none := ho.grownBy (fun _ h => h.elim)
theorem b_xor (x y : UInt8) : bits .xor .u8 (x.toNat : Int) (y.toNat : Int) = ((x ^^^ y).toNat : Int) := by
  have e : ∀ z : UInt8, BitVec.ofInt 8 (z.toNat : Int) = z.toBitVec := fun z => by simp
  show IntKind.u8.wrap ((BitVec.ofInt 8 (x.toNat : Int) ^^^ BitVec.ofInt 8 (y.toNat : Int)).toNat : Int) = _
  rw [e, e]
  have h : (x.toBitVec ^^^ y.toBitVec).toNat = (x ^^^ y).toNat := rfl
  rw [h]
  have key : ∀ z : UInt8, IntKind.u8.wrap (z.toNat : Int) = (z.toNat : Int) := fun z => by
    have := z.toNat_lt
    simp [IntKind.wrap, IntKind.bits, IntKind.signed]
    omega
  exact key _
theorem blk_bytes {w : World} {g : Nat} {t : TypeId} {l : List UInt8} (h : Blk w g t (l.map bv).toArray) : BytesAt w g 0 l := fun j x hx => by
  rw [Nat.zero_add, h.cell, List.getElem?_toArray, List.getElem?_map, hx]; rfl
theorem there_only {S : Nat → Prop} {w w' : World} {g o n : Nat} (h : w.there g o n) (ho : Only S w w') (hg : ¬ S g) : w'.there g o n := fun j hj => by
  obtain ⟨h1, h2⟩ := h j hj
  obtain ⟨v, hv⟩ := Option.isSome_iff_exists.1 h1
  have hb := ho.block g (World.block_lt_of_cell? w _ hv) hg
  exact ⟨by rw [World.cell?_of_block (a := ⟨g, o + j, none⟩) hb]; exact h1, by rw [World.frozen?_of_block (a := ⟨g, o + j, none⟩) hb]; exact h2⟩
theorem run_back {W : World} {g n cap : Nat} {l : List UInt8} (hb : BytesAt W g 0 l) (hl : l.length = n) : (convert 39 9 (.slice (some ⟨g, 0, none⟩) n cap)).run Tryz.prog W = .ok (.string ⟨l.toArray⟩) W := by
  subst hl
  exact run_convert_bytes_back (P := Tryz.prog) W 39 9 5 ⟨g, 0, none⟩ cap l Tryz.underlying39 Tryz.underlying5 Tryz.underlying9 (fun j hj => by
    rw [Addr.add_mid]
    exact hb j _ (List.getElem?_eq_getElem hj))
theorem wp_world {P : Program} {c : Code} {Q : Exit → Act → World → Prop} {a : Act} {w w' : World} (h : w' = w) (hh : Code.wp P c Q a w') : Code.wp P c Q a w := h ▸ hh
theorem extract_from (s : ByteArray) (k : Nat) : (s.extract k s.size).data.toList = s.data.toList.drop k := by
  rw [ByteArray.data_extract, Array.toList_extract, List.extract_eq_take_drop, List.take_of_length_le (by simp)]
theorem extract_upto (s : ByteArray) (k : Nat) : (s.extract 0 k).data.toList = s.data.toList.take k := by
  rw [ByteArray.data_extract, Array.toList_extract]
  simp
theorem bytes_eq {t : ByteArray} {l : List UInt8} (h : t.data.toList = l) : t = ⟨l.toArray⟩ := by
  subst h; rfl
theorem size_u8 (w : World) : (sizeOf 5).run Tryz.prog w = .ok 1 w := by kernel_rfl
theorem eql_hash (xs ys : List UInt8) (hx : xs.length = 32) (hy : ys.length = 32) (w : World) : (binOp .eql 25 (.agg (xs.map bv).toArray) (.agg (ys.map bv).toArray)).run Tryz.prog w = .ok (.bool (xs == ys)) w :=
  run_eql_bytes w 25 5 32 Tryz.underlying25 Tryz.underlying5 size_u8 xs ys hx hy
theorem only_of_drew {S : Nat → Prop} {w w' : World} (h : Only S w.drew w') : Only S w w' := ⟨h.os, h.tape, h.output, h.size, h.block⟩
end Go.Proofs.YtclpebgjmgfigaaGreatDoor
namespace Go.Proofs.YtclpebgjmgfigaaGreatDoor
open Go.RowKit Go.Shelf
abbrev tB : TypeId := 99
theorem size_builder : (Tryz.prog.info? 99).map (·.size) = some 2 := by kernel_rfl
theorem lies_builder : liesAt Tryz.prog Tryz.prog.depth 99 (2 / Tryz.prog.cellsOf 99) 0 99 1 = true := by kernel_rfl
set_option maxRecDepth 100000 in
set_option maxHeartbeats 400000 in
theorem bcheck_any {B b : Nat} {bs : List Value} {w : World} (h : Lib.IsBuilder 99 5 B b bs w) :
    Calls Tryz.prog 92 #[.pointer (some ⟨b, 0, none⟩)] w fun e w' => e = .returned (.tuple #[]) ∧ Lib.BuilderAt 99 5 B b (.pointer (some ⟨b, 0, none⟩)) bs w' ∧ Below B w w' := by
  obtain ⟨j, hj, hjs⟩ := Option.map_eq_some_iff.1 size_builder
  rcases h with h | h
  · have c0 := h.cell0
    have f0 := h.frozen0
    have hsh := h.shape
    have hto := fun W (hW : World.shape? W b = some (99, 2)) => Lib.run_to_unsafe (P := Tryz.prog) W ⟨b, 0, none⟩ Tryz.underlying97 Tryz.underlying154 hj (by rw [hjs]; decide) hW (Nat.zero_lt_succ 1)
    have hfr := Lib.run_from_unsafe (P := Tryz.prog) w ⟨b, 0, none⟩ Tryz.underlying154 Tryz.underlying97 hj hsh lies_builder
    have h1 := hto w hsh
    have HH := Lib.hid h
    clear h hto hsh
    go_enter Tryz.func92, Tryz.ntmps92
    go_wp2_with fail
    rw [run_callFunc_extern Tryz.func118 (by kernel_rfl) (by kernel_rfl) (by kernel_rfl) (e := Extern.AbiNoEscape.same) (by kernel_rfl)]
    rw [Lib.run_noEscape]
    simp only [Result.andThen]
    rw [Oper.upon_value]
    go_wp2_with fail
    go_end0
    have hu := HH.out.used (.pointer (some ⟨b, 0, none⟩))
    exact ⟨rfl, hu, (Below.refl _ _).setCell (p := ⟨b, 0, none⟩) HH.out.1 _⟩
  · have c0 := h.cell0
    have hne := Lib.run_neq_ptr_same (P := Tryz.prog) w ⟨b, 0, none⟩ Tryz.underlying97 hj
    have HH := Lib.hid h
    clear h
    go_enter Tryz.func92, Tryz.ntmps92
    go_wp2_with fail
    go_end0
    exact ⟨rfl, HH.out, Below.refl _ _⟩
set_option maxRecDepth 100000 in
set_option maxHeartbeats 400000 in
theorem bwrite_any {B b : Nat} {l : List UInt8} {s : ByteArray} {w : World} (h : Lib.IsBuilder 99 5 B b (Lib.byteCells l) w) (hlen : l.length + s.size ≤ 140737488355328) (hBw : B ≤ w.heap.size) :
    Calls Tryz.prog 90 #[.pointer (some ⟨b, 0, none⟩), .string s] w fun e w' => e = .returned (.tuple #[.int .i64 s.size, .nilIface]) ∧ Lib.IsBuilder 99 5 B b (Lib.byteCells (l ++ s.data.toList)) w' ∧ Below B w w' := by
  obtain ⟨i0, hi, hz0, hz1, hz2⟩ := info_parts Tryz.info5
  have H := Lib.hid h
  clear h
  go_enter Tryz.func90, Tryz.ntmps90
  go_wp2_with fail
  refine (bcheck_any H.out).mono ?_
  rintro e w1 ⟨rfl, h1, hb1⟩
  obtain ⟨hB, v, hbk, hown, hne⟩ := h1
  have c0 : w1.cell? ⟨b, 0, none⟩ = some (.pointer (some ⟨b, 0, none⟩)) := by rw [Lib.cell_of_heap hbk]; rfl
  have c1 : w1.cell? ⟨b, 1, none⟩ = some v := by rw [Lib.cell_of_heap hbk]; rfl
  have hlt : b < w1.heap.size := (Array.getElem?_eq_some_iff.1 hbk).1
  have hsz := hb1.size
  have HBK := Lib.hid hbk
  have HOWN := Lib.hid hown
  have HNE := Lib.hid hne
  have HB1 := Lib.hid hb1
  rw [Lib.byteCells_length] at HOWN
  clear hbk hown hne hb1
  go_wp2_with (at_builtin; refine Lib.wpList_append_own_string _ rfl _ _ 39 9 rfl B 5 i0 Tryz.underlying39 Tryz.underlying9 hi hz0 hz1 hz2 _ _ _ rfl HOWN.out s rfl (by unfold maxLen; omega) (by omega) (by omega) ?_; intro v' w2 hown' hgrow _; have hb2 : w2.heap[b]? = some (.cells #[.pointer (some ⟨b, 0, none⟩), v] 99 (0, 0)) := (by rw [hgrow.block b hlt (fun e => HNE.out e.symm)]; exact HBK.out); obtain ⟨ao, cap, hv', hcc, hcm⟩ := own_form' hown'; subst hv'; have d0 : w2.cell? ⟨b, 0, none⟩ = some (.pointer (some ⟨b, 0, none⟩)) := (by rw [Lib.cell_of_heap hb2]; rfl); have d1 : w2.cell? ⟨b, 1, none⟩ = some v := (by rw [Lib.cell_of_heap hb2]; rfl); have f1 : w2.frozen? ⟨b, 1, none⟩ = false := Lib.frozen_of_heap hb2 1; have HB2 := Lib.hid hb2; have HOW2 := Lib.hid hown'; have HGR := Lib.hid hgrow; clear hb2 hown' hgrow)
  go_ret2
  refine ⟨rfl, .inr ?_, ?_⟩
  · refine Lib.BuilderAt.put (T := 99) (e := 5) hB HB2.out (bs' := Lib.byteCells (l ++ s.data.toList)) ?_ (by decide)
    have h := HOW2.out
    have e : Lib.byteCells (l ++ s.data.toList) = Lib.byteCells l ++ Lib.strCells s := by simp [Lib.byteCells, Lib.strCells]
    rw [Lib.byteCells_length, List.length_append, e, ← size_list]
    exact h
  · exact (HB1.out.grown HGR.out (by have := HB1.out.size; omega) (fun k hk => (HOWN.out.lt k hk).1)).setCell (p := ⟨b, 1, none⟩) hB _
end Go.Proofs.YtclpebgjmgfigaaGreatDoor
