/- What is proved here: hashes of events, by the program. Conditions: names and texts are short; the table of powers of ten reads as its initialiser lays it. -/
import Derived.Test.YtclpebgjmgfigaaGreatDoorEvE
import Derived.Test.YtclpebgjmgfigaaGreatDoorEvB
namespace Go.Proofs.YtclpebgjmgfigaaGreatDoor
open Go.RowKit Go.Shelf
attribute [local go_sem ↓ high] evLoad_eq
theorem evCode_len {e : Ev} (he : e.Ok) (hn : e.name.size ≤ 8796093022208) (hx : e.text.size ≤ 8796093022208) : (evCode e).length ≤ 17592186044416 + 500 := by
  have l1 := numsL_len e.nums he.nums_in
  have l2 := hexL_len e.prev
  have l3 := quoL_len e.name.data.toList (by rw [← size_list]; omega)
  have l4 := quoL_len e.text.data.toList (by rw [← size_list]; omega)
  have l0 := numsL_len [e.r, e.s] (by
    intro x hx
    simp only [List.mem_cons, List.not_mem_nil, or_false] at hx
    rcases hx with rfl | rfl
    · exact he.r
    · exact he.s)
  rw [← size_list] at l3 l4
  rw [he.prev] at l2
  have l5 : e.nums.length = 10 := rfl
  simp only [List.length_cons, List.length_nil] at l0
  unfold evCode evText
  simp only [List.length_append, List.length_cons, List.length_nil]
  omega
theorem hashE_len (e : Ev) : (hashE e).length = 32 := shaL_len _
set_option maxRecDepth 100000 in
set_option maxHeartbeats 2000000 in
theorem ehash_any (e : Ev) (he : e.Ok) (hn : e.name.size ≤ 8796093022208) (hx : e.text.size ≤ 8796093022208) (w : World) (ht : Tab w) : Calls Tryz.prog 15 #[.agg (evC e).toArray] w fun e' w' => e' = .returned (hv (hashE e)) ∧ Only NoneOf w w' := by
  have hat : EvAt (w.alloc (.cells (evC e).toArray 29)) w.heap.size e := Blk.new w _ _
  have hal : ∀ W o, EvAt W w.heap.size e → EvAt (W.alloc o) w.heap.size e := fun W o h => Blk.alloc h o
  have cld : ∀ W, EvAt W w.heap.size e → (evLoad (.pointer (some ⟨w.heap.size, 0, none⟩))).run Tryz.prog W = .ok (.agg (evC e).toArray) W := fun W h => ev_load h he.prev
  have henc : ∀ W, Tab W → Calls Tryz.prog 13 #[.agg (evC e).toArray] W (RetStr (evCode e) W) := fun W hT => eencode_any e he hn hx W hT
  have hcl := evCode_len he hn hx
  have hl := hashE_len e
  have hi : (Tryz.prog.info? 25).map (·.size) = some ((hashE e).map bv).toArray.size := by rw [List.size_toArray, List.length_map, hl]; kernel_rfl
  have hone : ((hashE e).map bv).toArray.all (·.oneCell') = true := all_oneCell_toArray (bvs_one _)
  have HENC := Lib.hid henc
  have HT := Lib.hid ht
  have HCL := Lib.hid hcl
  have HL := Lib.hid hl
  have HI := Lib.hid hi
  have HONE := Lib.hid hone
  clear henc ht hcl hl hi hone he hn hx
  go_enter Tryz.func15, Tryz.ntmps15
  go_wp2_with fail
  have hb0 := Blk.new (w.alloc (.cells (evC e).toArray 29)) 25 (Array.replicate 32 (.int .u8 0))
  rw [World.size_alloc] at hb0
  have ho0 : Only NoneOf w ((w.alloc (.cells (evC e).toArray 29)).alloc (.cells (Array.replicate 32 (.int .u8 0)) 25)) := ((Only.refl _ _).alloc _).alloc _
  refine calls_gen (fun Y => Blk Y (w.heap.size + 1) 25 (Array.replicate 32 (.int .u8 0)) ∧ Only NoneOf w Y) ⟨hb0, ho0⟩ ?_
  rintro Y ⟨hb1, ho1⟩
  clear hb0 ho0 cld hal hat
  refine (HENC.out Y (HT.out.none ho1)).mono ?_
  rintro e1 w1 ⟨t, rfl, htl, ho2⟩
  have hb2 := hb1.only ho2 (fun e => e)
  have hts : t.size ≤ 35184372088832 := by rw [size_list, htl]; have := HCL.out; omega
  have hsum := sum_any t
  rw [htl] at hsum
  have HB2 := Lib.hid hb2
  have HO2 := Lib.hid (ho1.trans ho2)
  have HSUM := Lib.hid hsum
  clear hb1 ho1 ho2 htl hb2 hsum
  go_wp2_with fail
  refine (HSUM.out w1 hts).mono ?_
  rintro e2 w2 ⟨rfl, ho3⟩
  have hb3 := HB2.out.only ho3 (fun e => e)
  have hth : w2.there (w.heap.size + 1) 0 ((hashE e).map bv).toArray.size := hb3.there 0 _ (by rw [List.size_toArray, List.length_map, HL.out]; simp)
  have HB3 := Lib.hid hb3
  have HO3 := Lib.hid (HO2.out.trans ho3)
  have HTH := Lib.hid hth
  clear hb3 hth ho3
  have tok : True := trivial
  go_wp2_with (have _t := tok; refine wpList_store_mid rfl 25 (.tmp 2) (.tmp 5) rfl (w.heap.size + 1) 0 ((hashE e).map bv).toArray rfl rfl HTH.out HI.out HONE.out ?_; clear tok _t)
  have hb4 := HB3.out
  rw [← List.toArray_replicate] at hb4
  have hb5 := hb4.filled ((hashE e).map bv).toArray.toList (by simp [HL.out])
  refine bodyPost_ret (v := hv (hashE e)) (results_blk rfl rfl hb5 Tryz.underlying25 rfl (by simpa using HI.out)) rfl ⟨rfl, only_setCells HO3.out _ _ (.inr (by omega)) _⟩
end Go.Proofs.YtclpebgjmgfigaaGreatDoor
