/- What is proved here: a nil net and a zero net deliver nothing, for every message, time and script. No conditions. -/
import Derived.Test.YtoaddfmbjehhoaaNetI
import Derived.Test.YtoaddfmbjehhoaaLaw
namespace Go.Proofs.Ytoaddfmbjehhoaa
open Go.RowKit

theorem drops_neg (nodes : Int) (h : nodes ≤ 0) (t : Tr) (to : Int) : Drops nodes t to := by unfold Drops; omega

theorem only_b_below {B b : Nat} {nodes : Int} {S : List Tr} {sv wv : Value} {M : List Pcl} {k : Nat} {w w2 : World} (ho : Only (fun i => i = b) w w2) (hN : NetAt B b nodes S sv wv M k w) : Below B w w2 :=
  ho.below (by have := hN.1; have := hN.blk.lt; omega) (fun i hi => by have := hN.1; omega)
theorem zero_net (B : Nat) (w : World) (hB : B ≤ w.heap.size) : NetAt B w.heap.size 0 [] (.slice none 0 0) (.slice none 0 0) [] 0 (w.alloc (.cells #[.int .i64 0, .slice none 0 0, .slice none 0 0, .int .i64 0] 53)) :=
  ⟨hB, ⟨Blk.new _ _ _, rfl, List.Pairwise.nil, [], List.Perm.refl _, fun k h0 h1 => by simp at h1, World.ownsRow_nil _ _ _ _⟩, World.ownsRow_nil _ _ _ _, fun q hq => by cases hq⟩
/-- The two nets, and the message, in a world. -/
def Two (B bm bz be : Nat) (m0 m1 m2 : Value) (S : List Tr) (kz ke : Nat) (W : World) : Prop :=
  ∃ sv wz we, Blk W bm 31 #[m0, m1, m2] ∧ NetAt B bz 0 [] (.slice none 0 0) wz [] kz W ∧ NetAt B be (-3) S sv we [] ke W ∧ bz ≠ be ∧ wz.ownBlock = none ∧ we.ownBlock = none
theorem Two.only {B bm bz be : Nat} {m0 m1 m2 : Value} {S : List Tr} {kz ke : Nat} {W W' : World} (h : Two B bm bz be m0 m1 m2 S kz ke W) (ho : Only NoneOf W W') : Two B bm bz be m0 m1 m2 S kz ke W' := by
  obtain ⟨sv, wz, we, h1, h2, h3, h4⟩ := h
  exact ⟨sv, wz, we, h1.only ho (fun h => h), h2.only ho (fun h => h) (fun _ _ h => h) (fun _ _ h => h), h3.only ho (fun h => h) (fun _ _ h => h) (fun _ _ h => h), h4⟩
section
variable {B bm bz be : Nat} {m0 m1 m2 : Value} {S : List Tr} {kz ke : Nat} {W : World} (h : Two B bm bz be m0 m1 m2 S kz ke W)
include h
theorem Two.cells : W.cell? ⟨bm, 0, none⟩ = some m0 ∧ W.cell? ⟨bm, 1, none⟩ = some m1 ∧ W.cell? ⟨bm, 2, none⟩ = some m2 ∧ bm < W.heap.size := by
  obtain ⟨sv, wz, we, h1, _⟩ := h
  exact ⟨h1.cell 0, h1.cell 1, h1.cell 2, h1.lt⟩
theorem two_nil (now fr to : Int) (tx : ByteArray) : Calls Try.prog 14 #[.pointer none, .int .i64 now, msg fr to tx] W fun e W' => e = .returned (.tuple #[]) ∧ Two B bm bz be m0 m1 m2 S kz ke W' ∧ Below W.heap.size W W' :=
  (send_nil now fr to tx W).mono fun _ _ ⟨he, hb⟩ => ⟨he, h.only (Only.of_below hb _), hb⟩
theorem two_z (now fr to : Int) (tx : ByteArray) (hk : kz ≤ 1000000) : Calls Try.prog 14 #[.pointer (some ⟨bz, 0, none⟩), .int .i64 now, msg fr to tx] W fun e W' => e = .returned (.tuple #[]) ∧ Two B bm bz be m0 m1 m2 S (kz + 1) ke W' ∧ Below B W W' := by
  obtain ⟨sv, wz, we, h1, h2, h3, h4, h5, h6⟩ := h
  refine (send_drop' now fr to tx h2 (by decide) hk (drops_neg 0 (by omega) _ _)).mono ?_
  rintro e W' ⟨rfl, hN, ho⟩
  refine ⟨rfl, ⟨sv, wz, we, h1.only ho (fun e => h1.ne_ h2.blk (by decide) e), hN, h3.only ho (fun e => h4 e.symm) (fun g hg e => own_blk_ne h3.2.2.1 h2.blk (by decide) (by rw [hg, e])) (fun g hg => by rw [h6] at hg; cases hg), h4, h5, h6⟩, only_b_below ho h2⟩
theorem two_e (now fr to : Int) (tx : ByteArray) (hk : ke ≤ 1000000) (hS : S.length ≤ 1000000) : Calls Try.prog 14 #[.pointer (some ⟨be, 0, none⟩), .int .i64 now, msg fr to tx] W fun e W' => e = .returned (.tuple #[]) ∧ Two B bm bz be m0 m1 m2 S kz (ke + 1) W' ∧ Below B W W' := by
  obtain ⟨sv, wz, we, h1, h2, h3, h4, h5, h6⟩ := h
  refine (send_drop' now fr to tx h3 hS hk (drops_neg (-3) (by omega) _ _)).mono ?_
  rintro e W' ⟨rfl, hN, ho⟩
  refine ⟨rfl, ⟨sv, wz, we, h1.only ho (fun e => h1.ne_ h3.blk (by decide) e), h2.only ho h4 (fun g hg => by cases hg) (fun g hg => by rw [h5] at hg; cases hg), hN, h4, h5, h6⟩, only_b_below ho h3⟩
theorem two_next (p : Option Addr) (hp : p = none ∨ p = some ⟨bz, 0, none⟩ ∨ p = some ⟨be, 0, none⟩) : Calls Try.prog 16 #[.pointer p] W fun e W' => e = .returned noMsg ∧ Two B bm bz be m0 m1 m2 S kz ke W' ∧ Below W.heap.size W W' := by
  have h0 := h
  obtain ⟨sv, wz, we, h1, h2, h3, h4, h5, h6⟩ := h0
  rcases hp with rfl | rfl | rfl
  · exact (next_nil W).mono fun _ _ ⟨he, hb⟩ => ⟨he, h.only (Only.of_below hb _), hb⟩
  · exact (next_empty h2).mono fun _ _ ⟨he, hb⟩ => ⟨he, h.only (Only.of_below hb _), hb⟩
  · exact (next_empty h3).mono fun _ _ ⟨he, hb⟩ => ⟨he, h.only (Only.of_below hb _), hb⟩
theorem two_waiting (p : Option Addr) (hp : p = none ∨ p = some ⟨bz, 0, none⟩ ∨ p = some ⟨be, 0, none⟩) : Calls Try.prog 18 #[.pointer p] W fun e W' => e = .returned (.int .i64 0) ∧ W = W' := by
  obtain ⟨sv, wz, we, h1, h2, h3, h4, h5, h6⟩ := h
  rcases hp with rfl | rfl | rfl
  · exact waiting_nil W
  · exact waiting_any h2
  · exact waiting_any h3
end

set_option maxHeartbeats 1000000 in
theorem none_any (fr to : Int) (tx : ByteArray) (now : Int) {A : Option Addr} {n c : Nat} {L : List Tr} {w : World} (ha : Arg tc 3 w A n L) (hn : n ≤ maxLen) :
    Calls Try.prog 9 #[msg fr to tx, .int .i64 now, .slice A n c] w fun e w' => e = .returned (.bool true) ∧ Below w.heap.size w w' := by
  have HA := Lib.hid ha
  have HN := Lib.hid hn
  clear ha hn
  unfold msg
  go_enter Try.func9, Try.ntmps9
  go_wp2_with fail
  refine (sanity_any _).mono ?_
  rintro e w1 ⟨rfl, hb1⟩
  have HB1 := Lib.hid hb1
  clear hb1
  go_wp2_with fail
  have hs1 : w.heap.size + 1 ≤ w1.heap.size := by have := HB1.out.size; simpa using this
  refine (script_any (L := L) ((HA.out.keep ((Below.refl w.heap.size w).alloc (Nat.le_refl _) _)).keep HB1.out |>.keep ((Below.refl _ w1).alloc (Nat.le_refl _) _)) HN.out).mono ?_
  rintro e w2 ⟨v, rfl, ho2, hb2⟩
  have HO2 := Lib.hid ho2
  have HB2 := Lib.hid hb2
  clear ho2 hb2
  go_wp2_with fail
  refine (new_any (-3) HO2.out (by rw [sc_len]; omega)).mono ?_
  rintro e w3 ⟨be, sv, rfl, hN3, hb3⟩
  have hs2 : w1.heap.size + 1 ≤ w2.heap.size := by have := HB2.out.size; simpa using this
  have hT : Two w.heap.size w.heap.size w1.heap.size be (.int .i64 fr) (.int .i64 to) (.string tx) (sc L) 0 0 w3 := by
    refine ⟨sv, .slice none 0 0, .slice none 0 0, ?_, ?_, hN3.base (by omega), ?_, rfl, rfl⟩
    · exact (((((Blk.new w 31 #[.int .i64 fr, .int .i64 to, .string tx]).below HB1.out (by simp)).alloc _).below HB2.out (by simp; omega)).below hb3 (by omega))
    · exact ((zero_net w.heap.size w1 (by omega)).only (Only.of_below HB2.out NoneOf) (fun h => h) (fun _ _ h => h) (fun _ _ h => h)).only (Only.of_below hb3 NoneOf) (fun h => h) (fun _ _ h => h) (fun _ _ h => h)
    · have := hN3.1; omega
  have hB3 : Below w.heap.size w w3 := ((((Below.refl _ w).alloc (Nat.le_refl _) _).trans (HB1.out.mono (by simp))).alloc (by omega) _).trans (HB2.out.mono (by simp; omega)) |>.trans (hb3.mono (by omega))
  obtain ⟨c0, c1, c2, cl⟩ := hT.cells
  have HT := Lib.hid hT
  have HB3 := Lib.hid hB3
  clear hT hB3 hN3 hb3 HB1 HB2 HO2 HA HN
  generalize w1.heap.size = bz at *
  go_wp2_with fail
  refine (two_nil HT.out _ _ _ _).mono ?_
  rintro e w4 ⟨rfl, hT4, hB4⟩
  clear c0 c1 c2 cl
  obtain ⟨c0, c1, c2, cl⟩ := hT4.cells
  have HT4 := Lib.hid hT4
  have HB4 := Lib.hid hB4
  clear hT4 hB4
  go_wp2_with fail
  refine (two_z HT4.out _ _ _ _ (by omega)).mono ?_
  rintro e w5 ⟨rfl, hT5, hB5⟩
  clear c0 c1 c2 cl
  obtain ⟨c0, c1, c2, cl⟩ := hT5.cells
  have HT5 := Lib.hid hT5
  have HB5 := Lib.hid hB5
  clear hT5 hB5
  go_wp2_with fail
  refine (two_e HT5.out _ _ _ _ (by omega) (by rw [sc_len]; omega)).mono ?_
  rintro e w6 ⟨rfl, hT6, hB6⟩
  clear c0 c1 c2 cl
  obtain ⟨c0, c1, c2, cl⟩ := hT6.cells
  have HT6 := Lib.hid hT6
  have HB6 := Lib.hid hB6
  clear hT6 hB6
  clear c0 c1 c2 cl
  go_wp2_with fail
  refine (two_next HT6.out _ (.inl rfl)).mono ?_
  rintro e w7 ⟨rfl, hT7, hB7⟩
  have HT7 := Lib.hid (hT7.only ((Only.refl NoneOf _).alloc (.cells #[.int .i64 0, .int .i64 0, .string ⟨#[]⟩] 31)))
  have HB7 := Lib.hid hB7
  clear hT7 hB7
  unfold noMsg
  go_wp2_with fail
  refine (two_next HT7.out _ (.inr (.inl rfl))).mono ?_
  rintro e w8 ⟨rfl, hT8, hB8⟩
  have HT8 := Lib.hid (hT8.only ((Only.refl NoneOf _).alloc (.cells #[.int .i64 0, .int .i64 0, .string ⟨#[]⟩] 31)))
  have HB8 := Lib.hid hB8
  clear hT8 hB8
  unfold noMsg
  go_wp2_with fail
  refine (two_next HT8.out _ (.inr (.inr rfl))).mono ?_
  rintro e w9 ⟨rfl, hT9, hB9⟩
  have HT9 := Lib.hid (hT9.only ((Only.refl NoneOf _).alloc (.cells #[.int .i64 0, .int .i64 0, .string ⟨#[]⟩] 31)))
  have HB9 := Lib.hid hB9
  clear hT9 hB9
  unfold noMsg
  go_wp2_with fail
  refine (two_waiting HT9.out _ (.inl rfl)).mono ?_
  rintro e wx ⟨rfl, rfl⟩
  go_wp2_with fail
  refine (two_waiting HT9.out _ (.inr (.inl rfl))).mono ?_
  rintro e wx ⟨rfl, rfl⟩
  go_wp2_with fail
  refine (two_waiting HT9.out _ (.inr (.inr rfl))).mono ?_
  rintro e wx ⟨rfl, rfl⟩
  go_wp2_with fail
  go_ret
  have s4 := HB3.out.trans (HB4.out.mono HB3.out.size)
  have s6 := (s4.trans HB5.out).trans HB6.out
  have s7 := (s6.trans (HB7.out.mono s6.size)).alloc (s6.trans (HB7.out.mono s6.size)).size (.cells #[.int .i64 0, .int .i64 0, .string ⟨#[]⟩] 31)
  have s8 := (s7.trans (HB8.out.mono s7.size)).alloc (s7.trans (HB8.out.mono s7.size)).size (.cells #[.int .i64 0, .int .i64 0, .string ⟨#[]⟩] 31)
  have s9 := (s8.trans (HB9.out.mono s8.size)).alloc (s8.trans (HB9.out.mono s8.size)).size (.cells #[.int .i64 0, .int .i64 0, .string ⟨#[]⟩] 31)
  exact ⟨rfl, s9⟩
end Go.Proofs.Ytoaddfmbjehhoaa
