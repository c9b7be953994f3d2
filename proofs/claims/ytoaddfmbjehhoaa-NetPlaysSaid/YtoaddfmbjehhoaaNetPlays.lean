/- What is proved here: any sequence of calls has the results of the reference. Conditions: the script and the calls that come in read as lists. -/
import Derived.Test.YtoaddfmbjehhoaaNetT
import Derived.Test.YtoaddfmbjehhoaaNetDrains
namespace Go.Proofs.Ytoaddfmbjehhoaa
open Go.RowKit

structure Ac where
  kd : Int
  nw : Int
  fr : Int
  tw : Int
  tx : ByteArray
def ac (a : Ac) : List Value := [.int .i64 a.kd, .int .i64 a.nw, .int .i64 a.fr, .int .i64 a.tw, .string a.tx]
theorem ac_len (a : Ac) : (ac a).length = 5 := rfl
def PlRel (w : World) (b1 b2 : Nat) (nodes : Int) (S : List Tr) (k : Nat) (wr : World) : Prop :=
  ∃ (kk : Nat) (M R : List Pcl), kk ≤ k ∧ M.length ≤ 8 * k ∧ R.Perm M ∧ Nt w.heap.size b1 nodes S M kk wr ∧ Rf w.heap.size b2 nodes S R kk wr ∧ Below w.heap.size w wr

set_option maxRecDepth 100000 in
set_option maxHeartbeats 2000000 in
theorem plays_any {A A1 : Option Addr} {n c n1 c1 : Nat} {L : List Tr} {T : List Ac} {w : World} (nd : Int) (hnd : 0 ≤ nd ∧ nd ≤ 255) (ha : Arg tc 3 w A n L) (hn : n ≤ maxLen) (hat : Arg ac 5 w A1 n1 T) (hn1 : n1 ≤ maxLen) :
    Calls Try.prog 3 #[.int .u8 nd, .slice A n c, .slice A1 n1 c1] w fun e w' => e = .returned (.bool true) ∧ Below w.heap.size w w' := by
  obtain ⟨nd1, nd2⟩ := hnd
  have hm1 : 0 ≤ nd % 7 := by omega
  have hm2 : nd % 7 ≤ 6 := by omega
  have HA := Lib.hid ha
  have HN := Lib.hid hn
  have HA1 := Lib.hid hat
  rw [maxLen_val] at hn1
  clear ha hn hat
  go_enter Try.func3, Try.ntmps3
  go_wp2_with fail
  refine (sanity_any _).mono ?_
  rintro e w1 ⟨rfl, hb1⟩
  have HB1 := Lib.hid hb1
  clear hb1
  go_wp2_with fail
  refine (script_any (HA.out.keep HB1.out) HN.out).mono ?_
  rintro e w2 ⟨v, rfl, ho2, hb2⟩
  have hsl : (sc L).length ≤ 12 := by rw [sc_len]; omega
  have HSD := Lib.hid (sc_trAt L)
  have hB2 : Below w.heap.size w w2 := HB1.out.trans (hb2.mono HB1.out.size)
  have ho2' := own_base ho2 HB1.out.size
  generalize sc L = S at *
  have HO2 := Lib.hid ho2'
  have HB2 := Lib.hid hB2
  clear ho2 hb2 ho2' hB2 HB1 HA HN
  obtain ⟨Av, cv, rfl, _, _⟩ := own_form' HO2.out
  obtain ⟨nn, hnn⟩ : ∃ nn, nn = nd % 7 - 1 := ⟨_, rfl⟩
  go_wp2_with fail
  refine (nt_new (nd % 7 - 1) HO2.out (by omega)).mono ?_
  rintro e w3 ⟨b1, rfl, hN3, hb3⟩
  have HO3 := Lib.hid (own_only HO2.out (Only.of_below hb3 NoneOf) (fun _ _ h => h))
  have HB3 := Lib.hid (HB2.out.trans (hb3.mono HB2.out.size))
  have HN3 := Lib.hid (hN3.base HB2.out.size)
  clear hN3 hb3
  go_wp2_with fail
  refine (rf_new (nd % 7 - 1) HO3.out (by omega)).mono ?_
  rintro e w4 ⟨b2, rfl, hR4, hb4⟩
  have hP : PlRel w b1 b2 nn S 0 w4 := ⟨0, [], [], by omega, by simp, List.Perm.nil, by rw [hnn]; exact HN3.out.below hb4, by rw [hnn]; exact hR4.base HB3.out.size, HB3.out.trans (hb4.mono HB3.out.size)⟩
  have HP := Lib.hid hP
  clear hR4 hb4 hP HO3 HB3 HN3 HO2 HB2 hnn
  go_wp2_with fail
  go_loopw [11] (fun v wr => ∃ k : Nat, v = .int .i64 k ∧ k ≤ n1 ∧ k ≤ 60 ∧ PlRel w b1 b2 nn S k wr) (fun v _ => 60 - (intOf v).toNat)
  case atStart => exact ⟨0, rfl, by omega, by omega, HP.out⟩
  case round =>
    clear HP
    obtain ⟨k, rfl, hk, hk60, kk, M, R, hkk, hM, hp, hN, hR, hb⟩ := hrel
    by_cases hlt : k < n1 ∧ k < 60
    · obtain ⟨hlt1, hlt2⟩ := hlt
      obtain ⟨a, ht⟩ : ∃ t, T[k]? = some t := ⟨_, List.getElem?_eq_getElem (by rw [HA1.out.1]; exact hlt1)⟩
      obtain ⟨bk, off, rfl, hbk, hc'⟩ := HA1.out.2 k a ht
      have hbk' : bk < wr.heap.size := by have := hb.size; omega
      have c0 := (hb.cell (p := ⟨bk, off + k * 5 + 0, none⟩) hbk).trans (hc' 0 (by omega))
      have c1 := (hb.cell (p := ⟨bk, off + k * 5 + 1, none⟩) hbk).trans (hc' 1 (by omega))
      have c2 := (hb.cell (p := ⟨bk, off + k * 5 + 2, none⟩) hbk).trans (hc' 2 (by omega))
      have c3 := (hb.cell (p := ⟨bk, off + k * 5 + 3, none⟩) hbk).trans (hc' 3 (by omega))
      have c4 := (hb.cell (p := ⟨bk, off + k * 5 + 4, none⟩) hbk).trans (hc' 4 (by omega))
      simp only [ac, List.getElem?_cons_zero, List.getElem?_cons_succ, Nat.add_zero] at c0 c1 c2 c3 c4
      obtain ⟨kd, nw, fr, tw, tx⟩ := a
      simp only at c0 c1 c2 c3 c4
      obtain ⟨nt, hnt⟩ : ∃ nt, nt = nw.tmod 1000000 := ⟨_, rfl⟩
      have hnt1 : -1000000 < nt ∧ nt < 1000000 := by rw [hnt]; exact ⟨Int.lt_tmod_of_pos _ (by decide), Int.tmod_lt_of_pos _ (by decide)⟩
      have hnt' : nw.tmod 1000000 = nt := hnt.symm
      have ho1 : Only NoneOf wr (wr.alloc (.cells #[.int .i64 kd, .int .i64 nw, .int .i64 fr, .int .i64 tw, .string tx] 33)) := (Only.refl NoneOf wr).alloc _
      have hN1 := hN.only ho1
      have hR1 := hR.only ho1
      have hbA : Below w.heap.size w (wr.alloc (.cells #[.int .i64 kd, .int .i64 nw, .int .i64 fr, .int .i64 tw, .string tx] 33)) := hb.alloc hb.size _
      have hbx := Blk.new wr 33 #[.int .i64 kd, .int .i64 nw, .int .i64 fr, .int .i64 tw, .string tx]
      have hMl : M.length ≤ 480 := by omega
      have hs := nt_sorted hN
      have HN := Lib.hid hN1
      have HR := Lib.hid hR1
      have HB := Lib.hid hbA
      have HP := Lib.hid hp
      have HX := Lib.hid hbx
      have HS := Lib.hid hs
      clear hN hR hb hp hc' ht hnt ho1 hN1 hR1 hbA hbx hs
      go_wp2_with fail
      · obtain ⟨l1, l2⟩ := hnt1
        have h1 := nt_send HN.out nt fr tw tx HB.out.size (by omega) (by omega) (by omega) (by omega) (by omega) (HSD.out kk)
        simp only [msg] at h1
        refine h1.mono ?_
        rintro e w5 ⟨rfl, hN5, hb5, hk5⟩
        have hx5 := hk5 _ 33 _ (by decide) (by decide) HX.out
        have lx5 := hx5.lt
        have x1 := hx5.cell 1
        have x2 := hx5.cell 2
        have x3 := hx5.cell 3
        have x4 := hx5.cell 4
        simp only [List.getElem?_toArray, List.getElem?_cons_zero, List.getElem?_cons_succ] at x1 x2 x3 x4
        have HN5 := Lib.hid hN5
        have HB5 := Lib.hid (HB.out.trans hb5)
        have HR5 := Lib.hid (HR.out.kp hk5)
        clear hN5 hb5 hk5 hx5 h1
        go_wp2_with fail
        have h2 := rf_send HR5.out HN5.out nt fr tw tx HB5.out.size (by omega) (by omega) (by have := HP.out.length_eq; omega) (by omega) (by omega) (HSD.out kk)
        simp only [msg] at h2
        refine h2.mono ?_
        rintro e w6 ⟨rfl, hR6, hN6, hb6, _⟩
        have hp6 := sendR_perm (nodes := nn) (S := S) (k := kk) (now := nt) (fr := fr) (tgt := tw) (tx := tx) HP.out
        have hl6 := sendM_len nn S kk nt fr tw tx M
        have HR6 := Lib.hid hR6
        have HN6 := Lib.hid hN6
        have HB6 := Lib.hid (HB5.out.trans hb6)
        have HP6 := Lib.hid hp6
        clear hR6 hN6 hb6 hp6 h2
        generalize sendM nn S kk nt fr tw tx M = M' at *
        generalize sendR nn S kk nt fr tw tx R = R' at *
        go_wp2_with fail
        refine (nt_waiting HN6.out).mono ?_
        rintro e w7 ⟨rfl, rfl⟩
        go_wp2_with fail
        refine (rf_waiting HR6.out).mono ?_
        rintro e w8 ⟨rfl, rfl⟩
        rw [HP6.out.length_eq]
        go_wp2_with fail
        go_roundw
        case rel => exact ⟨k + 1, by go_num, by omega, by omega, kk + 1, M', R', by omega, by omega, HP6.out, HN6.out, HR6.out, HB6.out⟩
        case measure => simp [intOf]; omega
      · have h1 := nt_next HN.out (by omega)
        rw [show gotV M = .tuple #[.agg #[.int .i64 (hd M).fr, .int .i64 (hd M).tgt, .string (hd M).tx], .int .i64 (hd M).due, .bool (!M.isEmpty)] from rfl] at h1
        refine h1.mono ?_
        rintro e w5 ⟨rfl, hN5, hb5, hk5⟩
        have HR5 := Lib.hid ((HR.out.kp hk5).only ((Only.refl NoneOf w5).alloc (.cells #[.int .i64 (hd M).fr, .int .i64 (hd M).tgt, .string (hd M).tx] 31)))
        have HN5 := Lib.hid (hN5.only ((Only.refl NoneOf w5).alloc (.cells #[.int .i64 (hd M).fr, .int .i64 (hd M).tgt, .string (hd M).tx] 31)))
        have HB5 := Lib.hid ((HB.out.trans hb5).alloc (HB.out.trans hb5).size (.cells #[.int .i64 (hd M).fr, .int .i64 (hd M).tgt, .string (hd M).tx] 31))
        have HX5 := Lib.hid (Blk.new w5 31 #[.int .i64 (hd M).fr, .int .i64 (hd M).tgt, .string (hd M).tx])
        clear hN5 hb5 hk5 h1
        have h2 := rf_next HR5.out HN5.out HP.out HS.out HB5.out.size (by have := HP.out.length_eq; omega)
        rw [show gotV M = .tuple #[.agg #[.int .i64 (hd M).fr, .int .i64 (hd M).tgt, .string (hd M).tx], .int .i64 (hd M).due, .bool (!M.isEmpty)] from rfl] at h2
        have H2 := Lib.hid h2
        clear h2
        generalize hd M = q at *
        generalize (!M.isEmpty) = bb at *
        obtain ⟨qf, qw, qx, qd, qs⟩ := q
        go_wp2_with fail
        refine H2.out.mono ?_
        rintro e w6 ⟨rfl, R', hR6, hp6, hN6, hb6, hk6⟩
        have hx6 := hk6 _ 31 _ (by decide) (by decide) HX5.out
        have lx6 := hx6.lt
        have x0 := hx6.cell 0
        have x1 := hx6.cell 1
        have x2 := hx6.cell 2
        simp only [List.getElem?_toArray, List.getElem?_cons_zero, List.getElem?_cons_succ] at x0 x1 x2
        have HR6 := Lib.hid (hR6.only ((Only.refl NoneOf w6).alloc (.cells #[.int .i64 qf, .int .i64 qw, .string qx] 31)))
        have HN6 := Lib.hid (hN6.only ((Only.refl NoneOf w6).alloc (.cells #[.int .i64 qf, .int .i64 qw, .string qx] 31)))
        have HB6 := Lib.hid ((HB5.out.trans hb6).alloc (HB5.out.trans hb6).size (.cells #[.int .i64 qf, .int .i64 qw, .string qx] 31))
        have HP6 := Lib.hid hp6
        clear hR6 hN6 hb6 hp6 hx6 hk6 H2
        go_wp2_with fail
        refine (nt_waiting HN6.out).mono ?_
        rintro e w7 ⟨rfl, rfl⟩
        go_wp2_with fail
        refine (rf_waiting HR6.out).mono ?_
        rintro e w8 ⟨rfl, rfl⟩
        rw [HP6.out.length_eq]
        have htl : M.tail.length ≤ M.length := by rw [List.length_tail]; omega
        go_wp2_with fail
        go_roundw
        case rel => exact ⟨k + 1, by go_num, by omega, by omega, kk, M.tail, R', by omega, by omega, HP6.out, HN6.out, HR6.out, HB6.out⟩
        case measure => simp [intOf]; omega
    · have hfin : ∀ (P : Prop), (¬ k < n1 → P) → (k < n1 → ¬ k < 60 → P) → P := fun P h1 h2 => by
        by_cases h : k < n1
        · exact h2 h (fun h' => hlt ⟨h, h'⟩)
        · exact h1 h
      have HB := Lib.hid hb
      clear hN hR hp hb
      refine hfin _ ?_ ?_
      all_goals
        intros
        clear hlt hfin
        go_wp2_with fail
        go_ret
        exact ⟨rfl, HB.out⟩
end Go.Proofs.Ytoaddfmbjehhoaa
