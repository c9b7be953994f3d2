/- What is proved here: the check of the quorum laws answers true. Condition: the table of powers of ten reads as its initialiser lays it. -/
import Derived.Test.YtoehfainhmfghaaDoorQSp
import Derived.Test.YtoehfainhmfghaaDoorQCe
import Derived.Test.YtoehfainhmfghaaDoorQGr
import Derived.Deep.DeepCutAuto
namespace Go.Proofs.YtoehfainhmfghaaDoor
open Go.RowKit Go.Shelf
attribute [local go_sem ↓ high] hdLoad_eq vtLoad_eq hdNew_eq hdStore_eq vtBs1_eq
def h2 : Hd := ⟨2, rootZ⟩
theorem h2_ok : h2.Ok := ⟨⟨by decide, by decide⟩, rfl⟩
/-- A head built, under a name that the walk does not open. -/
def hdBd (parts : Array (Nat × Value)) : Sem Value := Instr.build 35 parts
theorem hdBd_eq (parts : Array (Nat × Value)) : Instr.build 35 parts = hdBd parts := rfl
theorem hdBd_two (W : World) : (hdBd #[(0, .int .i64 2)]).run Tryd.prog W = .ok (.agg (hdC h2).toArray) W := run_build (P := Tryd.prog) W 35 _ _ (by kernel_rfl)
attribute [local go_sem ↓ high] hdBd_eq
def ofs7 : List Int := [0, 1, 3, 4, 6, 7, -5]
def wnt7 : List Int := [1, 1, 3, 3, 5, 5, 1]
theorem seven : ∀ k, k < 7 → ∃ x y, ofs7[k]? = some x ∧ wnt7[k]? = some y ∧ needI x = y ∧ In x := fun k hk => by
  match k, hk with
  | 0, _ => exact ⟨0, 1, rfl, rfl, rfl, by decide, by decide⟩
  | 1, _ => exact ⟨1, 1, rfl, rfl, rfl, by decide, by decide⟩
  | 2, _ => exact ⟨3, 3, rfl, rfl, rfl, by decide, by decide⟩
  | 3, _ => exact ⟨4, 3, rfl, rfl, rfl, by decide, by decide⟩
  | 4, _ => exact ⟨6, 5, rfl, rfl, rfl, by decide, by decide⟩
  | 5, _ => exact ⟨7, 5, rfl, rfl, rfl, by decide, by decide⟩
  | 6, _ => exact ⟨-5, 1, rfl, rfl, rfl, by decide, by decide⟩
def szOf : Value → Nat
  | .string s => s.size
  | _ => 0
/-- What the loop over zeros keeps. -/
def ZeR (Z : World) (s : Value) (W : World) : Prop := ∃ (i : Nat) (t : ByteArray), s = .string t ∧ i ≤ 6 ∧ t.data.toList = List.replicate (2 ^ i) 48 ∧ W = Z
/-- What lies there of the setup and the head. -/
structure SaS (w : World) (B : Nat) (pv : Value) (W : World) : Prop where
  su : Blk W B 30 #[pv, .int .i64 0, .slice none 0 0, .slice none 0 0, .int .i64 0, .int .i64 0]
  hd : HdAt W (B + 1) h2
  per : PerSl W pv (setB 4)
  only : Only NoneOf w W
theorem SaS.keep {w : World} {B : Nat} {pv : Value} {W W' : World} (h : SaS w B pv W) (ho : Only NoneOf W W') : SaS w B pv W' :=
  ⟨h.su.only ho (fun e => e), Blk.only h.hd ho (fun e => e), h.per.only ho, h.only.trans ho⟩
/-- The two lists of votes. -/
structure LvS (w : World) (m : Nat) (ls ag : Value) (W : World) : Prop where
  l : VtOwn W w.heap.size ls m (vts h2 m)
  a : VtOwn W w.heap.size ag m (List.replicate m (vAt h2 1))
  apart : ∀ g, ls.ownBlock = some g → ag.ownBlock ≠ some g
  only : Only NoneOf w W
/-- .. when one more vote is in the first one. -/
structure LvT (w : World) (m : Nat) (ls ag : Value) (W : World) : Prop where
  l : VtOwn W w.heap.size ls (m + 1) (vts h2 (m + 1))
  a : VtOwn W w.heap.size ag m (List.replicate m (vAt h2 1))
  apart : ∀ g, ls.ownBlock = some g → ag.ownBlock ≠ some g
  only : Only NoneOf w W
theorem LvS.app {w : World} {m : Nat} {ls ag : Value} {W w1 : World} {g cap : Nat} (h : LvS w m ls ag W) (ho : w1.ownsRow w.heap.size 40 36 (.slice (some ⟨g, 0, none⟩) (m + 1) cap) (m + 1) ((vts h2 m).flatMap vtC ++ vtC (vAt h2 (m + 1)))) (hg : W.grownBy w1 ls.ownBlock) (hat : ls.ownBlock = some g ∨ g = W.heap.size) : LvT w m (.slice (some ⟨g, 0, none⟩) (m + 1) cap) ag w1 := by
  have hne : ag.ownBlock = none ∨ ag.ownBlock ≠ ls.ownBlock := by
    cases hl : ls.ownBlock with
    | none =>
      cases ha : ag.ownBlock with
      | none => exact .inl rfl
      | some g => exact .inr (by simp)
    | some g0 => exact .inr (h.apart g0 hl)
  refine ⟨?_, World.ownsRow.kept h.a hg hne, fun g' e ha => ?_, h.only.grown hg (fun j e => .inr (own_ge h.l e).1)⟩
  · unfold VtOwn
    rw [vts_snoc, List.flatMap_append, List.flatMap_cons, List.flatMap_nil, List.append_nil]
    exact ho
  · have e2 : g = g' := by simpa [Value.ownBlock] using e
    subst e2
    rcases hat with h1 | h1
    · exact h.apart g h1 ha
    · have := (own_ge h.a ha).2; omega
theorem LvT.app {w : World} {m : Nat} {ls ag : Value} {W w1 : World} {g cap : Nat} (h : LvT w m ls ag W) (ho : w1.ownsRow w.heap.size 40 36 (.slice (some ⟨g, 0, none⟩) (m + 1) cap) (m + 1) ((List.replicate m (vAt h2 1)).flatMap vtC ++ vtC (vAt h2 1))) (hg : W.grownBy w1 ag.ownBlock) (hat : ag.ownBlock = some g ∨ g = W.heap.size) : LvS w (m + 1) ls (.slice (some ⟨g, 0, none⟩) (m + 1) cap) w1 := by
  have hne : ls.ownBlock = none ∨ ls.ownBlock ≠ ag.ownBlock := by
    cases hl : ls.ownBlock with
    | none => exact .inl rfl
    | some g0 => exact .inr (fun e => h.apart g0 hl e.symm)
  refine ⟨World.ownsRow.kept h.l hg hne, ?_, fun g' e ha => ?_, h.only.grown hg (fun j e => .inr (own_ge h.a e).1)⟩
  · unfold VtOwn
    rw [List.replicate_succ', List.flatMap_append, List.flatMap_cons, List.flatMap_nil, List.append_nil]
    exact ho
  · have e2 : g = g' := by simpa [Value.ownBlock] using ha
    subst e2
    rcases hat with h1 | h1
    · exact h.apart g e h1
    · have := (own_ge h.l e).2; omega
theorem LvT.keep {w : World} {m : Nat} {ls ag : Value} {W W' : World} (h : LvT w m ls ag W) (ho : Only NoneOf W W') : LvT w m ls ag W' :=
  ⟨own_only h.l ho (fun _ _ e => e), own_only h.a ho (fun _ _ e => e), h.apart, h.only.trans ho⟩
theorem LvS.keep {w : World} {m : Nat} {ls ag : Value} {W W' : World} (h : LvS w m ls ag W) (ho : Only NoneOf W W') : LvS w m ls ag W' :=
  ⟨own_only h.l ho (fun _ _ e => e), own_only h.a ho (fun _ _ e => e), h.apart, h.only.trans ho⟩
theorem vAt_ok (k : Nat) (hk : k ≤ 100) : (vAt h2 k).Ok := vote_ok ⟨by omega, by omega⟩ h2_ok
theorem vts_ok {m : Nat} (hm : m ≤ 99) : VtsOk (vts h2 m) := fun v hv => by
  obtain ⟨j, hj, rfl⟩ := List.mem_map.1 hv
  have := List.mem_range.1 hj
  exact vAt_ok (j + 1) (by omega)
theorem rep_ok (m : Nat) : VtsOk (List.replicate m (vAt h2 1)) := fun v hv => by
  rw [(List.mem_replicate.1 hv).2]
  exact vAt_ok 1 (by omega)
theorem setB_ok (m : Nat) (hm : m ≤ 100) : PersOk (setB m) := fun p hp => by
  rcases List.mem_cons.1 hp with rfl | hp
  · exact ⟨⟨by decide, by decide⟩, ⟨by decide, by decide⟩, gp_in _⟩
  · obtain ⟨j, hj, rfl⟩ := List.mem_map.1 hp
    have := List.mem_range.1 hj
    exact ⟨⟨by show (-9223372036854775808 : Int) ≤ ((j + 1 : Nat) : Int); omega, by show ((j + 1 : Nat) : Int) ≤ 9223372036854775807; omega⟩, ⟨by show (-9223372036854775808 : Int) ≤ 2; omega, by show (2 : Int) ≤ 9223372036854775807; omega⟩, gp_in _⟩
set_option maxRecDepth 100000 in
set_option maxHeartbeats 4000000 in
theorem sanity29 (w : World) (ht : Tab w) : Calls Tryd.prog 4 #[] w fun e w' => e = .returned (.bool true) ∧ Only NoneOf w w' := by
  obtain ⟨A, eA⟩ : ∃ A, A = w.heap.size := ⟨_, rfl⟩
  obtain ⟨X, eX⟩ : ∃ X, X = (w.alloc (.cells #[.int .i64 0, .int .i64 1, .int .i64 3, .int .i64 4, .int .i64 6, .int .i64 7, .int .i64 (-5)] 3)).alloc (.cells #[.int .i64 1, .int .i64 1, .int .i64 3, .int .i64 3, .int .i64 5, .int .i64 5, .int .i64 1] 3) := ⟨_, rfl⟩
  have x1 : Blk X A 3 (ofs7.map (Value.int .i64)).toArray := by rw [eX, eA]; exact (Blk.new w _ _).alloc _
  have x2 : Blk X (A + 1) 3 (wnt7.map (Value.int .i64)).toArray := by
    have h := Blk.new (w.alloc (.cells #[.int .i64 0, .int .i64 1, .int .i64 3, .int .i64 4, .int .i64 6, .int .i64 7, .int .i64 (-5)] 3)) 3 (wnt7.map (Value.int .i64)).toArray
    rw [World.size_alloc, ← eA] at h
    rw [eX]; exact h
  have x3 : Only NoneOf w X := by rw [eX]; exact ((Only.refl _ _).alloc _).alloc _
  have X1 := Lib.hid x1
  have X2 := Lib.hid x2
  have X3 := Lib.hid x3
  have EX := Lib.hid eX
  have EA := Lib.hid eA
  have HT := Lib.hid ht
  clear x1 x2 x3 eX eA ht
  go_enter Tryd.func4, Tryd.ntmps4
  go_upto_region 3 with (fail)
  rw [← EA.out, ← EX.out]
  go_wp2_with fail
  go_loopw [0, 3] (fun _ i wr => ∃ k : Nat, i = .int .i64 k ∧ k ≤ 7 ∧ Only NoneOf X wr) (fun _ i _ => 7 - (intOf i).toNat)
  case atStart => exact ⟨0, rfl, by omega, Only.refl _ _⟩
  case round =>
    obtain ⟨k, rfl, hk, ho⟩ := hrel
    by_cases hlt : k < 7
    · obtain ⟨x, y, hx, hy, hn, hin⟩ := seven k hlt
      have ik : (k : Int) < 7 := by omega
      have ik0 : (0 : Int) ≤ (k : Int) := by omega
      have c1 : wr.cell? ⟨A, k, none⟩ = some (.int .i64 x) := ho.cell_some (by rw [X1.out.cell, List.getElem?_toArray, List.getElem?_map, hx]; rfl) (fun e => e)
      have c2 : wr.cell? ⟨A + 1, k, none⟩ = some (.int .i64 y) := ho.cell_some (by rw [X2.out.cell, List.getElem?_toArray, List.getElem?_map, hy]; rfl) (fun e => e)
      have hnd : ∀ W, Calls Tryd.prog 5 #[.int .i64 x] W fun e w' => e = .returned (.int .i64 y) ∧ w' = W := fun W => by rw [← hn]; exact qneed_any x hin W
      have HND := Lib.hid hnd
      have HO := Lib.hid ho
      have hne : (y != y) = false := by simp
      clear hnd ho hx hy hn hin
      go_upto_region 6 with (fail)
      go_quiet ((go_at_call 5; exact Calls.quiet_of_same (HND.out _)))
      go_wp2_with fail
      go_roundw
      case rel => exact ⟨k + 1, by go_num, by omega, HO.out.drewN _⟩
      case measure => simp [intOf]; omega
    · obtain rfl : k = 7 := by omega
      have HO := Lib.hid ho
      clear ho
      go_wp2_with fail
      refine (setup_any 4 ⟨by omega, by omega⟩ _).mono ?_
      rintro e1 w1 ⟨pv, rfl, hpv, ho1⟩
      rw [show nOff 4 = 4 from rfl] at hpv
      have hpv2 := hpv
      obtain ⟨pA, pcap, epv, _, _, _⟩ := hpv2
      rw [setB_len] at epv
      subst epv
      obtain ⟨B, eB⟩ : ∃ B, B = w1.heap.size := ⟨_, rfl⟩
      have hb0 : Blk ((w1.alloc (.cells #[.slice pA (4 + 1) pcap, .int .i64 0, .slice none 0 0, .slice none 0 0, .int .i64 0, .int .i64 0] 30)).alloc (.cells hd0C 35)) (B + 1) tHd hd0C := by
        have h := Blk.new (w1.alloc (.cells #[.slice pA (4 + 1) pcap, .int .i64 0, .slice none 0 0, .slice none 0 0, .int .i64 0, .int .i64 0] 30)) tHd hd0C
        rw [World.size_alloc, ← eB] at h
        exact h
      have hst := hd_store (h := h2) hb0 rfl rfl
      have hz0 : SaS w B (.slice pA (4 + 1) pcap) (((w1.alloc (.cells #[.slice pA (4 + 1) pcap, .int .i64 0, .slice none 0 0, .slice none 0 0, .int .i64 0, .int .i64 0] 30)).alloc (.cells hd0C 35)).setCells (B + 1) 0 (hdC h2)) := by
        have ho9 := ((X3.out.trans HO.out).trans ho1)
        refine ⟨Blk.farCells (by omega) _ 0 (by rw [eB]; exact (Blk.new w1 _ _).alloc _), filled_whole hb0 rfl, ?_, only_setCells ((ho9.alloc _).alloc _) (B + 1) 0 (.inr (by have := ho9.size; omega)) _⟩
        exact hpv.only (only_setCells (((Only.refl _ _).alloc _).alloc _) (B + 1) 0 (.inr (by omega)) _)
      have HZ0 := Lib.hid hz0
      have EB := Lib.hid eB
      rw [eB] at hst
      have hbd := hdBd_two
      have hnw := hdNew_run
      clear hpv ho1 hb0 hz0 eB HO
      unfold setV
      go_upto_region 10 with (fail)
      rw [← EB.out]
      refine wp_gen (SaS w B (.slice pA (4 + 1) pcap)) HZ0.out ?_
      intro Z hZ
      have HZ := Lib.hid hZ
      clear hZ HZ0 hst hbd hnw
      go_wp2_with fail
      go_loopw [6] (fun s wr => ZeR Z s wr) (fun s _ => 64 - szOf s)
      case atStart => exact ⟨0, ⟨#[48]⟩, rfl, by omega, rfl, rfl⟩
      case round =>
        obtain ⟨i, t, rfl, hi, ht, rfl⟩ := hrel
        have hts : t.size = 2 ^ i := by rw [size_list, ht, List.length_replicate]
        by_cases hi6 : i < 6
        · have h32 : t.size ≤ 32 := by
            rw [hts]
            exact Nat.le_trans (Nat.pow_le_pow_right (by omega) (show i ≤ 5 by omega)) (by decide)
          have hpos : 0 < t.size := by rw [hts]; exact Nat.two_pow_pos i
          have hlt64 : (t.size : Int) < 64 := by omega
          have HT2 := Lib.hid ht
          have HTS := Lib.hid hts
          clear ht hts
          go_wp2_with fail
          go_roundw
          case rel =>
            refine ⟨i + 1, _, rfl, by omega, ?_, rfl⟩
            rw [ByteArray.data_append, Array.toList_append, HT2.out, List.replicate_append_replicate]
            congr 1
            rw [Nat.pow_succ]; omega
          case measure => simp only [szOf, ByteArray.size_append]; omega
        · obtain rfl : i = 6 := by omega
          have h64 : t.size = 64 := hts
          have HT2 := Lib.hid ht
          have hge : ¬ (t.size : Int) < 64 := by omega
          have H64 := Lib.hid h64
          clear ht hts h64
          go_wp2_with fail
          obtain ⟨ie, z, hie, hsz, hz, hzc, hby⟩ := vt_info
          have HIE := Lib.hid hie
          have HSZ := Lib.hid hsz
          have HZZ := Lib.hid hz
          have HZC := Lib.hid hzc
          have HBY := Lib.hid hby
          clear hie hsz hz hzc hby
          have hlv0 : LvS wr 0 (.slice none 0 0) (.slice none 0 0) wr := ⟨⟨rfl, .inl ⟨rfl, rfl⟩⟩, ⟨rfl, .inl ⟨rfl, rfl⟩⟩, fun g h => (by cases h), Only.refl _ _⟩
          have HLV0 := Lib.hid hlv0
          clear hlv0
          obtain ⟨Z, rfl⟩ : ∃ Z : World, Z = wr := ⟨_, rfl⟩
          go_loopw [7, 8, 9] (fun ls ag i wi => ∃ m : Nat, i = .int .i64 ((m + 1 : Nat) : Int) ∧ m ≤ 3 ∧ LvS Z m ls ag wi) (fun _ _ i _ => 4 - (intOf i).toNat)
          case atStart => exact ⟨0, rfl, by omega, HLV0.out⟩
          case round =>
            obtain ⟨m, rfl, hm, hL⟩ := hrel
            obtain ⟨k, ek⟩ : ∃ k, k = m + 1 := ⟨_, rfl⟩
            rw [← ek]
            have HL := Lib.hid hL
            have EK := Lib.hid ek
            by_cases hm3 : m < 3
            · have ik : (k : Int) < 4 := by omega
              have hkb : k ≤ 3 ∧ 1 ≤ k := by omega
              obtain ⟨hk3, hk1⟩ := hkb
              have hm2 : m ≤ 2 := by omega
              clear hL ek hm3 hm
              obtain ⟨V, eVv⟩ : ∃ V, V = vAt h2 k := ⟨_, rfl⟩
              have vo : V.Ok := by rw [eVv]; exact vAt_ok k (by omega)
              have hl := vo.head.root
              have hsec : ∀ W, Calls Tryd.prog 9 #[.int .i64 (k : Int)] W fun e' w' => e' = .returned (.int .i64 (secI (k : Int))) ∧ w' = W := fun W => secret_any (k : Int) (by omega) (by omega) W
              have hvt : ∀ W, Only NoneOf Z W → Calls Tryd.prog 8 #[.int .i64 (k : Int), .int .i64 (secI (k : Int)), .agg (hdC h2).toArray] W fun e' w' => e' = .returned (.agg (vtC V).toArray) ∧ Only NoneOf W w' := fun W ho => by rw [eVv]; exact qvote_any (k : Int) (secI k) h2 h2_ok W (HT.out.none (HZ.out.only.trans ho))
              have hbs := bs1_run V hl
              have hhd : ∀ W, Only NoneOf Z W → (hdLoad (.pointer (some ⟨B + 1, 0, none⟩))).run Tryd.prog W = .ok (.agg (hdC h2).toArray) W := fun W h => hd_load (blk_range (Blk.only HZ.out.hd h (fun e => e))) rfl
              have HSEC := Lib.hid hsec
              have HVT := Lib.hid hvt
              have HVO := Lib.hid vo
              have EVV := Lib.hid eVv
              have HLK : Hid (∀ W W', LvS Z m u7 u8 W → Only NoneOf W W' → LvS Z m u7 u8 W') := Lib.hid (fun W W' h ho => h.keep ho)
              have HOW : Hid (∀ W, LvS Z m u7 u8 W → W.ownsRow Z.heap.size 40 36 u7 m ((vts h2 m).flatMap vtC)) := Lib.hid (fun W h => h.l)
              have HAP : Hid (∀ W w1 g cap, LvS Z m u7 u8 W → w1.ownsRow Z.heap.size 40 36 (.slice (some ⟨g, 0, none⟩) (m + 1) cap) (m + 1) ((vts h2 m).flatMap vtC ++ vtC V) → W.grownBy w1 u7.ownBlock → (u7.ownBlock = some g ∨ g = W.heap.size) → LvT Z m (.slice (some ⟨g, 0, none⟩) (m + 1) cap) u8 w1) := Lib.hid (fun W w1 g cap h h1 h3 h4 => by
                rw [EVV.out, EK.out] at h1; exact h.app h1 h3 h4)
              have hS0 : Only NoneOf Z wr.drew := HL.out.only.drew
              have hL0 : LvS Z m u7 u8 wr.drew := HL.out.keep (Only.refl _ _).drew
              clear hsec hvt hl eVv vo
              go_upto_region 17 with (fail)
              go_region_held3 (fun W => Only NoneOf Z W) (first | (with_reducible assumption) | (with_reducible exact Only.alloc (by with_reducible assumption) _))
                (first
                  | (refine step_append_lies _ (by rfl) _ _ _ (by rfl) Z.heap.size 40 ie z 36 ie.bytes Tryd.underlying36 HIE.out HZZ.out HSZ.out rfl HZC.out (by omega) u7 m ((vts h2 m).flatMap vtC) (by rfl) (World.ownsRow.alloc (HOW.out _ (by with_reducible assumption)) _) _ 1 1 (vtC V) (by rfl) (by rw [vtC_len HVO.out.head.root]) (World.news_of_block (cs := (vtC V).toArray) (t := 40) (fr := (0, 0)) (NewB.new _ V)) (vtC_one V) (by omega) (by rw [maxLen_val]; omega) (by have := HBY.out; exact Nat.le_trans (Nat.mul_le_mul (show m + 1 ≤ 3 by omega) this) (by omega)) (Only.size (by with_reducible first | assumption | exact Only.alloc (by assumption) _)) _ rfl ?_; intro g2 cap2 w2 hown2 hgrow2 hat2 hlt2; have hLT := HAP.out _ w2 g2 cap2 (HLK.out _ _ (by with_reducible assumption) ((Only.refl _ _).alloc _)) hown2 hgrow2 hat2; have hS2 := hLT.only; clear hown2 hgrow2 hat2 hlt2)
                  | (go_at_call 9; refine (HSEC.out _).mono ?_; rintro e5 w5 ⟨rfl, rfl⟩)
                  | (go_at_call 8; refine (HVT.out _ (by with_reducible assumption)).mono ?_; rintro e6 w6 ⟨rfl, ho6⟩; have hS6 := Only.trans (by with_reducible assumption) ho6; have hL6 := HLK.out _ _ (by with_reducible assumption) ho6; clear ho6))
              have hL9 := hLT
              have hV1 : (vts h2 (m + 1))[0]? = some (vAt h2 1) := by simp [vts, List.range_succ_eq_map]
              have h1o := vAt_ok 1 (by omega)
              have hld := vt_load (hLT.l.range (vts_ok (by omega)) hV1) h1o.head.root
              rw [Nat.zero_mul] at hld
              have hbs1 := bs1_run (vAt h2 1) h1o.head.root
              obtain ⟨V1, eV1⟩ : ∃ V1, V1 = vAt h2 1 := ⟨_, rfl⟩
              rw [← eV1] at hld hbs1
              have hi0 : (0 : Int) < ((m + 1 : Nat) : Int) := by omega
              have HLT := Lib.hid hLT
              have EV1 := Lib.hid eV1
              have H1L : Hid (V1.head.root.length = 32) := Lib.hid (by rw [eV1]; exact h1o.head.root)
              have HAP2 : Hid (∀ W w1 g cap, LvT Z m (.slice (some ⟨g2, 0, none⟩) (m + 1) cap2) u8 W → w1.ownsRow Z.heap.size 40 36 (.slice (some ⟨g, 0, none⟩) (m + 1) cap) (m + 1) ((List.replicate m (vAt h2 1)).flatMap vtC ++ vtC V1) → W.grownBy w1 u8.ownBlock → (u8.ownBlock = some g ∨ g = W.heap.size) → LvS Z (m + 1) (.slice (some ⟨g2, 0, none⟩) (m + 1) cap2) (.slice (some ⟨g, 0, none⟩) (m + 1) cap) w1) := Lib.hid (fun W w1 g cap h h1 h3 h4 => by
                rw [EV1.out] at h1; exact h.app h1 h3 h4)
              have hszz := hLT.only.size
              clear hL9 hV1 h1o eV1 hLT hS2 hS0 hL0 hbs hhd hS6 hL6
              go_wp2_with (at_builtin; refine wpList_append_lies _ rfl _ _ 36 rfl Z.heap.size 40 ie z 36 ie.bytes Tryd.underlying36 HIE.out HZZ.out HSZ.out rfl HZC.out (by omega) u8 m ((List.replicate m (vAt h2 1)).flatMap vtC) rfl (World.ownsRow.alloc HLT.out.a _) _ 1 1 (vtC V1) rfl (by rw [vtC_len H1L.out]) (World.news_of_block (cs := (vtC V1).toArray) (t := 40) (fr := (0, 0)) (NewB.new _ V1)) (vtC_one V1) (by omega) (by rw [maxLen_val]; omega) (by have := HBY.out; exact Nat.le_trans (Nat.mul_le_mul (show m + 1 ≤ 3 by omega) this) (by omega)) (by simp; omega) _ rfl ?_; intro g3 cap3 w3 hown3 hgrow3 hat3 hlt3)
              have hnew := HAP2.out _ w3 g3 cap3 (HLT.out.keep ((Only.refl _ _).alloc _)) hown3 hgrow3 hat3
              have HNEW := Lib.hid hnew
              clear hnew hown3 hgrow3 hat3 hlt3 hld hbs1
              go_wp2_with fail
              go_roundw
              case rel => exact ⟨m + 1, by rw [EK.out]; go_num, by omega, HNEW.out⟩
              case measure => simp [intOf]; omega
            · obtain rfl : m = 3 := by omega
              obtain ⟨ga, capa, ea, _, _, hca, hma⟩ := own_form hL.l (by omega)
              obtain ⟨gb, capb, eb, _, _, hcb, hmb⟩ := own_form hL.a (by omega)
              subst ea
              subst eb
              rw [maxLen_val] at hma hmb
              have hsu := HZ.out.keep hL.only
              have ik : ¬ (k : Int) < 4 := by omega
              have hc2 : (2 : Int) ≤ (capa : Int) := by omega
              have hs1 : VtSl wr (.slice (some ⟨ga, 0, none⟩) 3 capa) (vts h2 3) := by
                have h9 : VtOwn wr Z.heap.size (.slice (some ⟨ga, 0, none⟩) 3 capa) (vts h2 3).length (vts h2 3) := by rw [vts_len']; exact hL.l
                have := h9.sl (vts_ok (by omega))
                exact this
              have hs2 : VtSl wr (.slice (some ⟨ga, 0, none⟩) 2 capa) ((vts h2 3).take 2) := by
                have h8 := own_shrink hL.l (m := 2) (by omega)
                have hok3 : VtsOk (vts h2 3) := vts_ok (by omega)
                have h7 : ((vts h2 3).flatMap vtC).take (2 * 36) = ((vts h2 3).take 2).flatMap vtC := by
                  rw [← flat_vtF hok3, flat_take vtF_len, flat_vtF (fun x hx => hok3 x (List.mem_of_mem_take hx))]
                rw [h7] at h8
                have h9 : VtOwn wr Z.heap.size (.slice (some ⟨ga, 0, none⟩) 2 capa) ((vts h2 3).take 2).length ((vts h2 3).take 2) := by rw [List.length_take, vts_len']; exact h8
                have := h9.sl (fun x hx => hok3 x (List.mem_of_mem_take hx))
                rw [List.length_take, vts_len'] at *
                exact this
              have hs3 : VtSl wr (.slice (some ⟨gb, 0, none⟩) 3 capb) (List.replicate 3 (vAt h2 1)) := by
                have h9 : VtOwn wr Z.heap.size (.slice (some ⟨gb, 0, none⟩) 3 capb) (List.replicate 3 (vAt h2 1)).length (List.replicate 3 (vAt h2 1)) := by rw [List.length_replicate]; exact hL.a
                exact h9.sl (rep_ok 3)
              have hpok : PersOk (setB 4) := setB_ok 4 (by omega)
              have hcert : ∀ (sv : Value) (L : List Vt) (β : Bool), VtSl wr sv L → VtsOk L → L.length ≤ 100000 → certB (setB 4) h2 L = β → ∀ W, Only NoneOf wr W → Calls Tryd.prog 11 #[.agg #[.slice pA 5 pcap, .int .i64 0, .slice none 0 0, .slice none 0 0, .int .i64 0, .int .i64 0], .agg (hdC h2).toArray, sv] W fun e w' => e = .returned (.bool β) ∧ Only NoneOf W w' := fun sv L β hs hok hlen hβ W ho => by
                rw [← hβ]
                exact qcert_any (setB 4) hpok (by rw [setB_len]; omega) _ h2 h2_ok L hok hlen sv W (hsu.per.only ho) (hs.only ho) (HT.out.none (hsu.only.trans ho))
              have q1 := hcert _ _ true hs1 (vts_ok (by omega)) (by rw [vts_len']; omega) (cert_three h2)
              have q2 := hcert _ _ false hs2 (fun x hx => vts_ok (m := 3) (by omega) x (List.mem_of_mem_take hx)) (by rw [List.length_take, vts_len']; omega) (cert_two h2)
              have q3 := hcert _ _ false hs3 (rep_ok 3) (by rw [List.length_replicate]; omega) (cert_again h2)
              obtain ⟨T1, eT1⟩ : ∃ T1, T1 = hdT h2 := ⟨_, rfl⟩
              have qt : ∀ W, Only NoneOf wr W → Calls Tryd.prog 10 #[.agg (hdC h2).toArray] W fun e w' => e = .returned (.string T1) ∧ Only NoneOf W w' := fun W ho => by rw [eT1]; exact qtext_any h2 h2_ok W (HT.out.none (hsu.only.trans ho))
              have hcat : (⟨#[104, 101, 97, 100, 32, 50, 32]⟩ : ByteArray) ++ t = T1 := by
                rw [eT1]
                refine bytes_ext ?_
                rw [ByteArray.data_append, Array.toList_append, HT2.out, hdT_list]
                decide +kernel
              have hts : ¬ 9223372036854775807 < 7 + t.size := by rw [H64.out]; omega
              have HQ1 := Lib.hid q1
              have HQ2 := Lib.hid q2
              have HQ3 := Lib.hid q3
              have HQT := Lib.hid qt
              have HSU := Lib.hid hsu.only
              have c0 : ∀ W, Only NoneOf wr W → W.cell? ⟨B, 0, none⟩ = some (.slice pA 5 pcap) := fun W h => (hsu.su.only h (fun e => e)).cell 0
              have c1 : ∀ W, Only NoneOf wr W → W.cell? ⟨B, 1, none⟩ = some (.int .i64 0) := fun W h => (hsu.su.only h (fun e => e)).cell 1
              have c2 : ∀ W, Only NoneOf wr W → W.cell? ⟨B, 2, none⟩ = some (.slice none 0 0) := fun W h => (hsu.su.only h (fun e => e)).cell 2
              have c3 : ∀ W, Only NoneOf wr W → W.cell? ⟨B, 3, none⟩ = some (.slice none 0 0) := fun W h => (hsu.su.only h (fun e => e)).cell 3
              have c4 : ∀ W, Only NoneOf wr W → W.cell? ⟨B, 4, none⟩ = some (.int .i64 0) := fun W h => (hsu.su.only h (fun e => e)).cell 4
              have c5 : ∀ W, Only NoneOf wr W → W.cell? ⟨B, 5, none⟩ = some (.int .i64 0) := fun W h => (hsu.su.only h (fun e => e)).cell 5
              have ch : ∀ W, Only NoneOf wr W → (hdLoad (.pointer (some ⟨B + 1, 0, none⟩))).run Tryd.prog W = .ok (.agg (hdC h2).toArray) W := fun W h => hd_load (blk_range (Blk.only hsu.hd h (fun e => e))) rfl
              have hS0 : Only NoneOf wr wr.drew := (Only.refl _ _).drew
              clear q1 q2 q3 qt hcert hs1 hs2 hs3 hsu hL ek eT1 hpok hm hm3
              go_upto_region 19 with (fail)
              go_region_held3 (fun W => Only NoneOf wr W) (first | (with_reducible assumption))
                (first
                  | (go_at_call 10; refine (HQT.out _ (by with_reducible assumption)).mono ?_; rintro e5 w5 ⟨rfl, ho5⟩; have hS5 := Only.trans (by with_reducible assumption) ho5; clear ho5)
                  | (go_at_call 11; (with_reducible refine (HQ1.out _ (by assumption)).mono ?_); rintro e6 w6 ⟨rfl, ho6⟩; have hS6 := Only.trans (by with_reducible assumption) ho6; clear ho6)
                  | (go_at_call 11; (with_reducible refine (HQ2.out _ (by assumption)).mono ?_); rintro e7 w7 ⟨rfl, ho7⟩; have hS7 := Only.trans (by with_reducible assumption) ho7; clear ho7)
                  | (go_at_call 11; (with_reducible refine (HQ3.out _ (by assumption)).mono ?_); rintro e8 w8 ⟨rfl, ho8⟩; have hS8 := Only.trans (by with_reducible assumption) ho8; clear ho8))
              all_goals
                go_wp2_with fail
                go_ret
                exact ⟨rfl, HSU.out.trans (by assumption)⟩
end Go.Proofs.YtoehfainhmfghaaDoor
