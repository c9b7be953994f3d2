/- What is proved here: of two messages the one whose time and delay add up to less arrives first. No conditions. -/
import Derived.Test.YtoaddfmbjehhoaaNetJ
namespace Go.Proofs.Ytoaddfmbjehhoaa
open Go.RowKit

def ovS (x y : Int) : List Tr := [⟨false, 0, x⟩, ⟨false, 0, y⟩]
def ovM (a b x y : Int) : List Pcl := sendM 1 (ovS x y) 1 b 2 0 ⟨#[]⟩ (sendM 1 (ovS x y) 0 a 1 0 ⟨#[]⟩ [])
theorem ov_first (a b x y : Int) (hx : 0 ≤ x) (hy : 0 ≤ y) : hd (ovM a b x y) = (if b + y < a + x then ⟨2, 0, ⟨#[]⟩, b + y, 1⟩ else ⟨1, 0, ⟨#[]⟩, a + x, 0⟩) := by
  have e0 : sendM 1 (ovS x y) 0 a 1 0 ⟨#[]⟩ [] = [⟨1, 0, ⟨#[]⟩, a + x, 0⟩] := by
    have h : max x 0 = x := by omega
    have hc : (min (max (0 : Int) 1) 8).toNat = 1 := by decide
    simp [sendM, trAt, ovS, Drops, copies, hc, addM, ins, h]
  have e1 : ovM a b x y = ins ⟨2, 0, ⟨#[]⟩, b + y, 1⟩ [⟨1, 0, ⟨#[]⟩, a + x, 0⟩] := by
    unfold ovM
    rw [e0]
    have h : max y 0 = y := by omega
    have hc : (min (max (0 : Int) 1) 8).toNat = 1 := by decide
    simp [sendM, trAt, ovS, Drops, copies, hc, addM, h]
  rw [e1]
  by_cases h : b + y < a + x
  · have hl : lt ⟨2, 0, ⟨#[]⟩, b + y, 1⟩ ⟨1, 0, ⟨#[]⟩, a + x, 0⟩ = true := by rw [lt_iff]; exact .inl h
    rw [if_pos h]
    simp [ins, hl, hd]
  · have hl : lt ⟨2, 0, ⟨#[]⟩, b + y, 1⟩ ⟨1, 0, ⟨#[]⟩, a + x, 0⟩ = false := by rw [lt_false]; unfold Lt; simp only; omega
    rw [if_neg h]
    simp [ins, hl, hd]

theorem ov_delay (x y : Int) (hx : x ≤ 65535) (hy : y ≤ 65535) (k : Nat) : (trAt (ovS x y) k).delay ≤ 1000000000 := by
  unfold trAt ovS
  rw [if_neg (by simp)]
  have h : k % [(⟨false, 0, x⟩ : Tr), ⟨false, 0, y⟩].length < 2 := Nat.mod_lt _ (by simp)
  generalize k % [(⟨false, 0, x⟩ : Tr), ⟨false, 0, y⟩].length = i at h
  match i, h with
  | 0, _ => simp; omega
  | 1, _ => simp; omega

set_option maxHeartbeats 1000000 in
theorem over_any (a b x y : Int) {w : World} (ha : 0 ≤ a ∧ a ≤ 65535) (hb : 0 ≤ b ∧ b ≤ 65535) (hx : 0 ≤ x ∧ x ≤ 65535) (hy : 0 ≤ y ∧ y ≤ 65535) :
    Calls Try.prog 7 #[.int .u16 a, .int .u16 b, .agg #[.int .u16 x, .int .u16 y]] w fun e w' => e = .returned (.bool true) ∧ Below w.heap.size w w' := by
  obtain ⟨a1, a2⟩ := ha
  obtain ⟨b1, b2⟩ := hb
  obtain ⟨x1, x2⟩ := hx
  obtain ⟨y1, y2⟩ := hy
  go_enter Try.func7, Try.ntmps7
  go_wp2_with fail
  refine (sanity_any _).mono ?_
  rintro e w1 ⟨rfl, hb1⟩
  have hbx := (Blk.new w 47 #[.int .u16 x, .int .u16 y]).below hb1 (by simp)
  have c0 := hbx.cell 0
  have c1 := hbx.cell 1
  have cl := hbx.lt
  simp only [List.getElem?_toArray, List.getElem?_cons_zero, List.getElem?_cons_succ] at c0 c1
  have HB1 := Lib.hid hb1
  have HX := Lib.hid hbx
  clear hb1 hbx
  go_wp2_with fail
  refine (nt_new (B := w.heap.size) (S := ovS x y) 1 (by exact World.ownsRow_lit (base := w.heap.size) (e := 42) (size := 3) w1 #[.bool false, .int .i64 0, .int .i64 x, .bool false, .int .i64 0, .int .i64 y] 2 (by omega) (by rw [maxLen_val]; omega) rfl) (by simp [ovS])).mono ?_
  rintro e w2 ⟨nb, rfl, hN2, hb2⟩
  have hN2' := Lib.hid (hN2.base (B' := w.heap.size) (by simp; omega))
  have HX2 := Lib.hid ((HX.out.alloc _).below hb2 (by simp; omega))
  have HB2 := Lib.hid (((Below.refl w.heap.size w).alloc (Nat.le_refl _) _).trans (HB1.out.mono (by simp)) |>.alloc (by omega) _ |>.trans (hb2.mono (by simp; omega)))
  clear hN2 hb2 c0 c1 cl
  go_wp2_with fail
  refine (nt_send hN2'.out a 1 0 ⟨#[]⟩ (by have := HB2.out.size; omega) (by simp [ovS]) (by omega) (by simp) (by omega) (by omega) (ov_delay x y x2 y2 _)).mono ?_
  rintro e w3 ⟨rfl, hN3, hb3, hk3⟩
  have HN3 := Lib.hid hN3
  have HB3 := Lib.hid (HB2.out.trans hb3)
  have HX3 := Lib.hid (hk3 _ _ _ (by decide) (by decide) HX2.out)
  clear hN3 hb3 hk3
  go_wp2_with fail
  refine (nt_send HN3.out b 2 0 ⟨#[]⟩ (by have := HB3.out.size; omega) (by simp [ovS]) (by omega) (by have := sendM_len 1 (ovS x y) 0 a 1 0 ⟨#[]⟩ []; simp at this; omega) (by omega) (by omega) (ov_delay x y x2 y2 _)).mono ?_
  rintro e w4 ⟨rfl, hN4, hb4, hk4⟩
  have HN4 := Lib.hid (show Nt w.heap.size nb 1 (ovS x y) (ovM a b x y) 2 w4 from hN4)
  have HB4 := Lib.hid (HB3.out.trans hb4)
  have HX4 := Lib.hid (hk4 _ _ _ (by decide) (by decide) HX3.out)
  clear hN4 hb4 hk4
  go_wp2_with fail
  refine (nt_next HN4.out (by unfold ovM; have h1 := sendM_len 1 (ovS x y) 0 a 1 0 ⟨#[]⟩ []; have h2 := sendM_len 1 (ovS x y) 1 b 2 0 ⟨#[]⟩ (sendM 1 (ovS x y) 0 a 1 0 ⟨#[]⟩ []); simp at h1; omega)).mono ?_
  rintro e w5 ⟨rfl, hN5, hb5, hk5⟩
  have HB5 := Lib.hid (HB4.out.trans hb5)
  have hX5 := hk5 _ _ _ (by decide) (by decide) HX4.out
  have c0 := hX5.cell 0
  have c1 := hX5.cell 1
  have cl := hX5.lt
  simp only [List.getElem?_toArray, List.getElem?_cons_zero, List.getElem?_cons_succ] at c0 c1
  clear hN5 hb5 hk5 hX5
  unfold gotV msg
  rw [ov_first a b x y x1 y1]
  by_cases hlt : b + y < a + x
  · rw [if_pos hlt]
    have hm : (if b + y < a + x then b + y else a + x) = b + y := if_pos hlt
    dsimp only
    go_wp2_with fail
    go_quiet (fail)
    go_wp2_with fail
    go_ret
    exact ⟨rfl, below_drewN (HB5.out.alloc HB5.out.size _) _⟩
  · rw [if_neg hlt]
    have hm : (if b + y < a + x then b + y else a + x) = a + x := if_neg hlt
    dsimp only
    go_wp2_with fail
    go_quiet (fail)
    go_wp2_with fail
    go_ret
    exact ⟨rfl, below_drewN (HB5.out.alloc HB5.out.size _) _⟩
end Go.Proofs.Ytoaddfmbjehhoaa
