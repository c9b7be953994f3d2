/- What is proved here: a text sealed under a key, and a seal opened. Conditions: the table of powers of ten reads as its initialiser lays it; the text is short. -/
import Derived.Test.YtdgapomeenigbaaDoorSealC
namespace Go.Proofs.YtdgapomeenigbaaDoor
open Go.RowKit Go.Shelf
theorem run_back {W : World} {g n cap : Nat} {l : List UInt8} (hb : BytesAt W g 0 l) (hl : l.length = n) : (convert 32 9 (.slice (some ⟨g, 0, none⟩) n cap)).run Tryd.prog W = .ok (.string ⟨l.toArray⟩) W := by
  subst hl
  exact run_convert_bytes_back (P := Tryd.prog) W 32 9 5 ⟨g, 0, none⟩ cap l Tryd.underlying32 Tryd.underlying5 Tryd.underlying9 (fun j hj => by
    rw [Addr.add_mid]
    exact hb j _ (List.getElem?_eq_getElem hj))
theorem wp_world {P : Program} {c : Code} {Q : Exit → Act → World → Prop} {a : Act} {w w' : World} (h : w' = w) (hh : Code.wp P c Q a w') : Code.wp P c Q a w := h ▸ hh
def sealS (key : Int) (l : List UInt8) : List UInt8 := shaL (checkS key l) ++ combL key l
theorem sealS_len (key : Int) (l : List UInt8) : (sealS key l).length = 32 + l.length := by rw [sealS, List.length_append, shaL_len, combL_len]
theorem sum_fits {key : Int} {s t : ByteArray} {h : List UInt8} (hs : s.size ≤ 17592186044416) (hl : h.length = 32) (ht : t.data.toList = combL key s.data.toList) : ¬ 9223372036854775807 < h.length + t.size := by
  have : t.size = s.size := by rw [size_list, ht, combL_len, ← size_list]
  omega
set_option maxRecDepth 100000 in
theorem seal_any (key : Int) (h0 : -9223372036854775808 ≤ key) (h1 : key ≤ 9223372036854775807) (s : ByteArray) (hs : s.size ≤ 17592186044416) (w : World) (ht : Tab w) :
    Calls Tryd.prog 12 #[.int .i64 key, .string s] w (RetStr (sealS key s.data.toList) w) := by
  have HT := Lib.hid ht
  clear ht
  go_enter Tryd.func12, Tryd.ntmps12
  go_wp2_with fail
  refine (check_any key h0 h1 s hs w HT.out).mono ?_
  rintro e w1 ⟨rfl, ho1⟩
  obtain ⟨h, eh⟩ : ∃ h, h = shaL (checkS key s.data.toList) := ⟨_, rfl⟩
  rw [← eh]
  have hl : h.length = 32 := by rw [eh]; exact shaL_len _
  have EH := Lib.hid eh
  have hi41 : (Tryd.prog.info? 41).map (·.size) = some (h.map bv).toArray.size := by rw [List.size_toArray, List.length_map, hl]; kernel_rfl
  have hone : (h.map bv).toArray.all (·.oneCell') = true := all_oneCell_toArray (bvs_one _)
  have hthr : (w1.alloc (.cells (Array.replicate 32 (.int .u8 0)) 41)).there w1.heap.size 0 (h.map bv).toArray.size := (Blk.new w1 _ _).there 0 _ (by rw [List.size_toArray, List.length_map, hl]; simp)
  obtain ⟨X, eX⟩ : ∃ X, X = (w1.alloc (.cells (Array.replicate 32 (.int .u8 0)) 41)).setCells w1.heap.size 0 (h.map bv).toArray.toList := ⟨_, rfl⟩
  have hX : Only NoneOf w X := by rw [eX]; exact only_setCells ((Only.refl NoneOf w).trans (ho1.alloc _)) _ _ (.inr ho1.size) _
  have hby : BytesAt X w1.heap.size 0 h := by rw [eX]; exact blk_bytes (by simpa using (Blk.new w1 41 (Array.replicate 32 (.int .u8 0))).filled (h.map bv).toArray.toList (by simp [hl]))
  have hXs : w1.heap.size < X.heap.size := by rw [eX]; simp [setCells_size]
  have HI41 := Lib.hid hi41
  have HONE := Lib.hid hone
  have HTH := Lib.hid hthr
  have HL := Lib.hid hl
  have HX := Lib.hid hX
  have HBY := Lib.hid hby
  have HXS := Lib.hid hXs
  have HEX := Lib.hid eX
  clear eh hl hi41 hone hthr hX hby ho1 hXs eX
  have tok1 : True := trivial
  go_wp2_with (have _t := tok1; refine wpList_store_mid rfl 41 (.tmp 5) (.tmp 8) rfl w1.heap.size 0 (h.map bv).toArray rfl rfl HTH.out HI41.out HONE.out ?_; clear tok1 _t)
  refine wp_world HEX.out ?_
  clear HEX
  have hr0 := run_back (W := X.drew) (cap := 32) HBY.out HL.out
  go_region_law (first
    | (go_simp; go_at_call 22; refine (combine_any key h0 h1 s hs _ (HT.out.none HX.out.drew)).mono ?_; rintro e w9 ⟨t, rfl, htl, ho9⟩; have hr9 := run_back (W := w9) (cap := 32) (BytesAt.only (S := NoneOf) (w := X.drew) HBY.out ho9 (fun h => h)) HL.out; have hz9 : ¬ 9223372036854775807 < h.length + t.size := sum_fits hs HL.out htl; have HTL := Lib.hid htl; have HO9 := Lib.hid ho9; clear htl ho9))
  all_goals
    go_wp2_with fail
    go_ret
    refine ⟨_, rfl, ?_, HX.out.drew.trans HO9.out⟩
    rw [append_list, HTL.out, sealS, EH.out]
end Go.Proofs.YtdgapomeenigbaaDoor
