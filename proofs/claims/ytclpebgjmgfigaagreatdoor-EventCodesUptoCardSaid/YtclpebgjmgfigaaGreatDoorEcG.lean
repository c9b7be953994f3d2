/- What is proved here: how the reference's reader takes a word, a number and a quoted text. Conditions: the text is short. -/
import Derived.Test.YtclpebgjmgfigaaGreatDoorEcF
namespace Go.Proofs.YtclpebgjmgfigaaGreatDoor
open Go.RowKit Go.Shelf
abbrev tRdr : TypeId := 80
def RWordE (s : ByteArray) (ok : Bool) (c : UInt8) (R : Nat) (w : World) (e : Ending) (w' : World) : Prop := ∃ (a r : ByteArray) (k : Bool), e = .returned (.string a) ∧ Blk w' R tRdr #[.string r, .bool k] ∧ Only (fun i => i = R) w w' ∧ a.size ≤ s.size ∧ r.size ≤ s.size ∧ ∀ x t, WordAt s.data.toList c x t → a.data.toList = x ∧ r.data.toList = t ∧ k = ok
def RNumbE (s : ByteArray) (ok : Bool) (c : UInt8) (R : Nat) (w : World) (e : Ending) (w' : World) : Prop := ∃ (n : Int) (r : ByteArray) (k : Bool), e = .returned (.int .i64 n) ∧ In n ∧ Blk w' R tRdr #[.string r, .bool k] ∧ Only (fun i => i = R) w w' ∧ r.size ≤ s.size ∧ ∀ m t, NumAt s.data.toList c m t → n = m ∧ r.data.toList = t ∧ k = ok
def RTextE (s : ByteArray) (ok : Bool) (R : Nat) (w : World) (e : Ending) (w' : World) : Prop := ∃ (a r : ByteArray) (k : Bool), e = .returned (.string a) ∧ Blk w' R tRdr #[.string r, .bool k] ∧ Only (fun i => i = R) w w' ∧ a.size ≤ s.size ∧ r.size ≤ s.size ∧ (ok = true → ∀ x t, QuoAt s.data.toList x t → a.data.toList = x ∧ r.data.toList = t ∧ k = true)
set_option maxRecDepth 100000 in
set_option maxHeartbeats 400000 in
theorem rrword_any (s : ByteArray) (hs : s.size ≤ 100000000) (ok : Bool) (c : UInt8) (R : Nat) (w : World) (hb : Blk w R tRdr #[.string s, .bool ok]) : Calls Tryz.prog 43 #[.pointer (some ⟨R, 0, none⟩), .int .u8 (c.toNat : Int)] w (RWordE s ok c R w) := by
  have HU := Lib.hid (fun W => until_any s hs c W)
  have HB := Lib.hid hb
  have c0 := hb.cell 0
  clear hb
  go_enter Tryz.func43, Tryz.ntmps43
  go_wp2_with fail
  refine (HU.out _).mono ?_
  rintro e w1 ⟨a, r, k, rfl, hsa, hsr, hw, ho⟩
  have hb1 := HB.out.only ho (fun e => e)
  have c1 := hb1.cell 1
  have f0 := hb1.frozen 0
  have f1 := hb1.frozen 1
  have d0 := hb1.cell 0
  have HB1 := Lib.hid hb1
  have HO := Lib.hid ho
  have HW := Lib.hid hw
  have HSA := Lib.hid hsa
  have HSR := Lib.hid hsr
  clear ho hb1 hw hsa hsr c0
  have HOO := Lib.hid ((HO.out.mono (fun _ _ e => e.elim) : Only (fun i => i = R) w w1))
  cases ok with
  | false =>
    go_wp2_with fail
    go_ret
    exact ⟨a, r, false, rfl, (HB1.out.set_ 1 _).set_ 0 _, (HOO.out.setCell (p := ⟨R, 1, none⟩) (.inl rfl) _).setCell (p := ⟨R, 0, none⟩) (.inl rfl) _, HSA.out, HSR.out, fun x t h => ⟨(HW.out x t h).1, (HW.out x t h).2.1, rfl⟩⟩
  | true =>
    go_wp2_with fail
    go_ret
    exact ⟨a, r, k, rfl, (HB1.out.set_ 1 _).set_ 0 _, (HOO.out.setCell (p := ⟨R, 1, none⟩) (.inl rfl) _).setCell (p := ⟨R, 0, none⟩) (.inl rfl) _, HSA.out, HSR.out, fun x t h => ⟨(HW.out x t h).1, (HW.out x t h).2.1, (HW.out x t h).2.2⟩⟩
end Go.Proofs.YtclpebgjmgfigaaGreatDoor
