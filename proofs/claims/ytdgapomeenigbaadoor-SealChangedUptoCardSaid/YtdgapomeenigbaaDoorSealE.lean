/- What is proved here: a seal opened. Conditions: the table of powers of ten reads as its initialiser lays it; the text is short. -/
import Derived.Test.YtdgapomeenigbaaDoorSealD
namespace Go.Proofs.YtdgapomeenigbaaDoor
open Go.RowKit Go.Shelf
def openS (key : Int) (l : List UInt8) : List UInt8 × Bool :=
  if l.length < 32 then ([], false) else if shaL (checkS key (combL key (l.drop 32))) = l.take 32 then (combL key (l.drop 32), true) else ([], false)
def RetOpen (r : List UInt8 × Bool) (w : World) (e : Ending) (w' : World) : Prop := ∃ t : ByteArray, e = .returned (.tuple #[.string t, .bool r.2]) ∧ t.data.toList = r.1 ∧ Only NoneOf w w'
theorem openS_short {key : Int} {l : List UInt8} (h : l.length < 32) : openS key l = ([], false) := by rw [openS, if_pos h]
theorem openS_good {key : Int} {l : List UInt8} (h : 32 ≤ l.length) (hc : shaL (checkS key (combL key (l.drop 32))) = l.take 32) : openS key l = (combL key (l.drop 32), true) := by rw [openS, if_neg (by omega), if_pos hc]
theorem openS_bad {key : Int} {l : List UInt8} (h : 32 ≤ l.length) (hc : shaL (checkS key (combL key (l.drop 32))) ≠ l.take 32) : openS key l = ([], false) := by rw [openS, if_neg (by omega), if_neg hc]
theorem extract_from (s : ByteArray) (k : Nat) : (s.extract k s.size).data.toList = s.data.toList.drop k := by
  rw [ByteArray.data_extract, Array.toList_extract, List.extract_eq_take_drop, List.take_of_length_le (by simp)]
theorem extract_upto (s : ByteArray) (k : Nat) : (s.extract 0 k).data.toList = s.data.toList.take k := by
  rw [ByteArray.data_extract, Array.toList_extract]
  simp
set_option maxRecDepth 100000 in
theorem open_any (key : Int) (h0 : -9223372036854775808 ≤ key) (h1 : key ≤ 9223372036854775807) (s : ByteArray) (hs : s.size ≤ 17592186044416) (w : World) (ht : Tab w) :
    Calls Tryd.prog 14 #[.int .i64 key, .string s] w (RetOpen (openS key s.data.toList) w) := by
  have HT := Lib.hid ht
  clear ht
  go_enter Tryd.func14, Tryd.ntmps14
  go_wp2_with fail
  · go_ret2
    rw [openS_short (by rw [← size_list]; omega)]
    exact ⟨⟨#[]⟩, rfl, rfl, Only.refl _ _⟩
  · rename_i hge
    have hge' : 32 ≤ s.data.toList.length := by rw [← size_list]; omega
    have hx : (s.extract 32 s.size).data.toList = s.data.toList.drop 32 := extract_from s 32
    have hxs : (s.extract 32 s.size).size ≤ 17592186044416 := by rw [size_list, hx, List.length_drop, ← size_list]; omega
    have h32 : (s.extract 0 32).data.toList = s.data.toList.take 32 := extract_upto s 32
    refine (combine_any key h0 h1 _ hxs _ HT.out).mono ?_
    rintro e w1 ⟨t, rfl, htl, ho1⟩
    rw [hx] at htl
    have hts : t.size ≤ 17592186044416 := by rw [size_list, htl, combL_len, List.length_drop, ← size_list]; omega
    have HX := Lib.hid hx
    have H32 := Lib.hid h32
    have HGE := Lib.hid hge'
    have HTL := Lib.hid htl
    have HTS := Lib.hid hts
    have HO1 := Lib.hid ho1
    have HT1 := Lib.hid (HT.out.none ho1)
    clear hx hxs h32 hge' htl hts ho1
    go_wp2_with fail
    refine (check_any key h0 h1 t HTS.out _ HT1.out).mono ?_
    rintro e w2 ⟨rfl, ho2⟩
    obtain ⟨h, eh⟩ : ∃ h, h = shaL (checkS key t.data.toList) := ⟨_, rfl⟩
    rw [← eh]
    have hl : h.length = 32 := by rw [eh]; exact shaL_len _
    have EH := Lib.hid eh
    have hi41 : (Tryd.prog.info? 41).map (·.size) = some (h.map bv).toArray.size := by rw [List.size_toArray, List.length_map, hl]; kernel_rfl
    have hone : (h.map bv).toArray.all (·.oneCell') = true := all_oneCell_toArray (bvs_one _)
    have hthr : (w2.alloc (.cells (Array.replicate 32 (.int .u8 0)) 41)).there w2.heap.size 0 (h.map bv).toArray.size := (Blk.new w2 _ _).there 0 _ (by rw [List.size_toArray, List.length_map, hl]; simp)
    obtain ⟨X, eX⟩ : ∃ X, X = (w2.alloc (.cells (Array.replicate 32 (.int .u8 0)) 41)).setCells w2.heap.size 0 (h.map bv).toArray.toList := ⟨_, rfl⟩
    have hX : Only NoneOf w X := by rw [eX]; exact only_setCells (HO1.out.trans (ho2.alloc _)) _ _ (.inr (Nat.le_trans HO1.out.size ho2.size)) _
    have hby : BytesAt X w2.heap.size 0 h := by rw [eX]; exact blk_bytes (by simpa using (Blk.new w2 41 (Array.replicate 32 (.int .u8 0))).filled (h.map bv).toArray.toList (by simp [hl]))
    have HI41 := Lib.hid hi41
    have HONE := Lib.hid hone
    have HTH := Lib.hid hthr
    have HL := Lib.hid hl
    have HX2 := Lib.hid hX
    have HBY := Lib.hid hby
    have HEX := Lib.hid eX
    clear eh hl hi41 hone hthr hX hby ho2 eX
    have tok1 : True := trivial
    go_wp2_with (have _t := tok1; refine wpList_store_mid rfl 41 (.tmp 7) (.tmp 17) rfl w2.heap.size 0 (h.map bv).toArray rfl rfl HTH.out HI41.out HONE.out ?_; clear tok1 _t)
    refine wp_world HEX.out ?_
    clear HEX
    have hr0 := run_back (W := X.drew) (cap := 32) HBY.out HL.out
    have hsz : 32 ≤ s.size := by omega
    go_region
    all_goals go_wp2_with fail
    all_goals
      rename_i hcmp
      rw [Lib.toList_data, H32.out] at hcmp
      go_ret2
      have hc : shaL (checkS key (combL key (s.data.toList.drop 32))) = h := by rw [EH.out, HTL.out]
    · rw [openS_bad HGE.out (by rw [hc]; intro e; rw [← e] at hcmp; simp at hcmp)]
      exact ⟨⟨#[]⟩, rfl, rfl, HX2.out.drew⟩
    · rw [openS_good HGE.out (by rw [hc]; simpa using hcmp)]
      exact ⟨t, rfl, HTL.out, HX2.out.drew⟩
end Go.Proofs.YtdgapomeenigbaaDoor
