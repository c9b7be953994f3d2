/- What is proved here: a bid's receipt is the hash of its text. Conditions: the texts and lists are short. -/
import Derived.Test.YtpdlbmieciabmaaGreatDoorBsK
import Derived.Test.YtpdlbmieciabmaaGreatDoorM2
import Derived.Test.YtpdlbmieciabmaaGreatDoorM3
import Derived.Stop.BytesEq
import Derived.Laws.StructEq
namespace Go.Proofs.YtpdlbmieciabmaaGreatDoor
open Go.RowKit Go.Shelf
abbrev tHs : TypeId := 68
theorem neq_hs (xs : List UInt8) (hx : xs.length = 32) (w : World) : (binOp .neq 68 (.agg (xs.map bv).toArray) (.agg (xs.map bv).toArray)).run Tryz.prog w = .ok (.bool false) w := by
  have h : (Op.equalIn 10000 68 (.agg (xs.map bv).toArray) (.agg (xs.map bv).toArray)).run Tryz.prog w = .ok (xs == xs) w := run_equalIn_bytes w 9998 68 5 32 Tryz.underlying68 Tryz.underlying5 size_u8 xs xs hx hx
  rw [run_neq_struct, h, beq_self_eq_true]
  rfl
theorem encB_len {d : Bd} (h : d.Ok) : (encB d).length ≤ 22 * (d.qc.length + d.pc.length) + 2 * (d.qt.size + d.pt.size) + 100 := by
  have h1 := lineL_len wBid [d.bidder] (fun x hx => by rw [List.mem_singleton.1 hx]; exact h.id)
  have h2 := lineL_len wQuality d.qc h.qi
  have h3 := lineL_len (hexL d.qt.data.toList) [] (fun x hx => by cases hx)
  have h4 := lineL_len wPrice d.pc h.pi
  have h5 := lineL_len (hexL d.pt.data.toList) [] (fun x hx => by cases hx)
  rw [hexL_len, ← size_list] at h3 h5
  have e1 : wBid.length = 3 := rfl
  have e2 : wQuality.length = 7 := rfl
  have e3 : wPrice.length = 5 := rfl
  simp only [List.length_singleton, List.length_nil] at h1 h3 h5
  unfold encB
  simp only [List.length_append]
  omega
set_option maxRecDepth 100000 in
set_option maxHeartbeats 2000000 in
theorem receipt16_any (d : Bd) (hd : d.Ok) {qA pA : Option Addr} {qk pk : Nat} {w : World} (hq : IntSl w qA d.qc) (hp : IntSl w pA d.pc) (ht : Tab w) : Calls Tryz.prog 23 #[.agg (bdCells d qA pA qk pk)] w fun e' w' => e' = .returned (.agg ((shaL (encB d)).map bv).toArray) ∧ Only NoneOf w w' := by
  have hcl := encB_len hd
  have hlq := hd.ql
  have hlp := hd.pl
  have hlt := hd.qt
  have hlu := hd.pt
  have hl : (shaL (encB d)).length = 32 := shaL_len _
  have hi : (Tryz.prog.info? 68).map (·.size) = some ((shaL (encB d)).map bv).toArray.size := by rw [List.size_toArray, List.length_map, hl]; kernel_rfl
  have hone : ((shaL (encB d)).map bv).toArray.all (·.oneCell') = true := all_oneCell_toArray (bvs_one _)
  have HD := Lib.hid hd
  have HQ := Lib.hid hq
  have HP := Lib.hid hp
  have HT := Lib.hid ht
  have HCL := Lib.hid (show (encB d).length ≤ 35184372088832 by omega)
  have HL := Lib.hid hl
  have HI := Lib.hid hi
  have HONE := Lib.hid hone
  clear hcl hlq hlp hlt hlu hl hi hone hd hq hp ht
  go_enter Tryz.func23, Tryz.ntmps23
  go_wp2_with fail
  have hb0 := Blk.new (w.alloc (.cells (bdCells d qA pA qk pk) tBid)) 68 (Array.replicate 32 (.int .u8 0))
  rw [World.size_alloc] at hb0
  have ho0 : Only NoneOf w ((w.alloc (.cells (bdCells d qA pA qk pk) tBid)).alloc (.cells (Array.replicate 32 (.int .u8 0)) 68)) := ((Only.refl _ _).alloc _).alloc _
  refine calls_gen (fun Y => Blk Y (w.heap.size + 1) 68 (Array.replicate 32 (.int .u8 0)) ∧ Only NoneOf w Y) ⟨hb0, ho0⟩ ?_
  rintro Y ⟨hb1, ho1⟩
  clear hb0 ho0
  refine (bencode_any d HD.out (HQ.out.none_ ho1) (HP.out.none_ ho1) (HT.out.none ho1)).mono ?_
  rintro e1 w1 ⟨t, rfl, htl, ho2⟩
  have hb2 := hb1.only ho2 (fun e => e)
  have hts : t.size ≤ 35184372088832 := by rw [size_list, htl]; exact HCL.out
  have hsum := sum_any t
  rw [htl] at hsum
  have HB2 := Lib.hid hb2
  have HO2 := Lib.hid (ho1.trans ho2)
  have HSUM := Lib.hid hsum
  clear hb1 ho1 ho2 htl hb2 hsum
  go_wp2_with fail
  refine (HSUM.out w1 hts).mono ?_
  rintro e2 w2 ⟨rfl, ho3⟩
  have hb3 := HB2.out.only ho3 (fun e => e)
  have hth : w2.there (w.heap.size + 1) 0 ((shaL (encB d)).map bv).toArray.size := hb3.there 0 _ (by rw [List.size_toArray, List.length_map, HL.out]; simp)
  have HB3 := Lib.hid hb3
  have HO3 := Lib.hid (HO2.out.trans ho3)
  have HTH := Lib.hid hth
  clear hb3 hth ho3
  have tok : True := trivial
  go_wp2_with (have _t := tok; refine wpList_store_mid rfl 68 (.tmp 2) (.tmp 5) rfl (w.heap.size + 1) 0 ((shaL (encB d)).map bv).toArray rfl rfl HTH.out HI.out HONE.out ?_; clear tok _t)
  have hb4 := HB3.out
  rw [← List.toArray_replicate] at hb4
  have hb5 := hb4.filled ((shaL (encB d)).map bv).toArray.toList (by simp [HL.out])
  refine bodyPost_ret (v := .agg ((shaL (encB d)).map bv).toArray) (results_blk rfl rfl hb5 Tryz.underlying68 rfl (by simpa using HI.out)) rfl ⟨rfl, only_setCells HO3.out _ _ (.inr (by omega)) _⟩
end Go.Proofs.YtpdlbmieciabmaaGreatDoor
