/- What is proved here: several parts. the greatest certified head, by the reference. Conditions: the numbers are ints, roots have 32 bytes, there are few votes and persons. · the setup that the laws on quorums use, with odd persons. Condition: the number is an int. · what the laws on quorums keep in memory, and what is called there. Conditions: the table of powers of ten reads as its initialiser lays it. -/
import Derived.Test.YtoehfainhmfghaaGreatDoorB2
import Derived.Test.YtoehfainhmfghaaGreatDoorN8
import Derived.Test.YtoehfainhmfghaaGreatDoorB3
import Derived.Test.YtoehfainhmfghaaGreatDoorN9
import Derived.Deep.DeepCutAuto
import Derived.Deep.RegionHeld3
namespace Go.Proofs.YtoehfainhmfghaaGreatDoor
open Go.RowKit Go.Shelf
attribute [local go_sem ↓ high] hdLoad_eq hdNew_eq hdStore_eq rootLoad_eq
/-- What the loop keeps. -/
structure BrL (w : World) (B : Nat) (pv : Value) (P : List Pers) (L : List Vt) (k : Nat) (o : Option Hd) (W : World) : Prop where
  s : Blk W B 39 #[pv, .int .i64 0, .slice none 0 0, .slice none 0 0, .int .i64 0, .int .i64 0]
  r : HdAt W (B + 1) hd0
  b : HdAt W (B + 1 + 1) (hdOr o)
  ok : (hdOr o).Ok
  best : BestOn (fun h => h ∈ (L.take k).map (·.head)) (fun h => certB P h L) o
  only : Only NoneOf w W
theorem BrL.more {w : World} {B : Nat} {pv : Value} {P : List Pers} {L : List Vt} {k k' : Nat} {o o' : Option Hd} {W W' : World} (h : BrL w B pv P L k o W) (ho : Only NoneOf W W') (hb : HdAt W' (B + 1 + 1) (hdOr o')) (hk : (hdOr o').Ok) (hbest : BestOn (fun h => h ∈ (L.take k').map (·.head)) (fun h => certB P h L) o') : BrL w B pv P L k' o' W' :=
  ⟨h.s.only ho (fun e => e), Blk.only h.r ho (fun e => e), hb, hk, hbest, h.only.trans ho⟩
theorem BrL.put {w : World} {B : Nat} {pv : Value} {P : List Pers} {L : List Vt} {k k' : Nat} {o : Option Hd} {x : Hd} {W : World} (h : BrL w B pv P L k o W) (hwB : w.heap.size ≤ B) (hx : x.Ok) (hbest : BestOn (fun h => h ∈ (L.take k').map (·.head)) (fun h => certB P h L) (some x)) : BrL w B pv P L k' (some x) (W.setCells (B + 1 + 1) 0 (hdC x)) :=
  ⟨h.s.farCells (by omega) _ 0, Blk.farCells (by omega) _ 0 h.r, filled_whole h.b (by rw [List.size_toArray, hdC_len h.ok.root, hdC_len hx.root]), hx, hbest, only_setCells h.only (B + 1 + 1) 0 (.inr (by omega)) _⟩
set_option maxRecDepth 100000 in
set_option maxHeartbeats 4000000 in
theorem rqbest_any (P : List Pers) (hP : PersOk P) (hlen : P.length ≤ 1000) (pv : Value) (L : List Vt) (hok : VtsOk L) (hL : L.length ≤ 100000) (sv : Value) (w : World) (hp : PerSl w pv P) (hs : VtSl w sv L) :
    Calls Tryz.prog 32 #[setV pv, sv] w fun e w' => ∃ o, BestOn (fun h => h ∈ L.map (·.head)) (fun h => certB P h L) o ∧ e = .returned (.tuple #[.agg (hdC (hdOr o)).toArray, .bool o.isSome]) ∧ Only NoneOf w w' := by
  have hct : ∀ (h : Hd) (ok : h.Ok) W, Only NoneOf w W → Calls Tryz.prog 30 #[.agg #[pv, .int .i64 0, .slice none 0 0, .slice none 0 0, .int .i64 0, .int .i64 0], .agg (hdC h).toArray, sv] W fun e w' => e = .returned (.bool (certB P h L)) ∧ Only NoneOf W w' := fun h ok W ho => rqcert_any P hP hlen pv h ok L hok hL sv W (hp.only ho) (hs.only ho)
  obtain ⟨A, cap, rfl, hlc, hcm, hA⟩ := hs
  obtain ⟨B, eB⟩ : ∃ B, B = w.heap.size := ⟨_, rfl⟩
  obtain ⟨X, eX⟩ : ∃ X, X = ((w.alloc (.cells #[pv, .int .i64 0, .slice none 0 0, .slice none 0 0, .int .i64 0, .int .i64 0] 39)).alloc (.cells hd0C 25)).alloc (.cells hd0C 25) := ⟨_, rfl⟩
  have hS0 : BrL w B pv P L 0 none X := by
    have h2 := Blk.new (w.alloc (.cells #[pv, .int .i64 0, .slice none 0 0, .slice none 0 0, .int .i64 0, .int .i64 0] 39)) tHd hd0C
    have h3 := Blk.new ((w.alloc (.cells #[pv, .int .i64 0, .slice none 0 0, .slice none 0 0, .int .i64 0, .int .i64 0] 39)).alloc (.cells hd0C 25)) tHd hd0C
    rw [World.size_alloc, ← eB] at h2
    rw [World.size_alloc, World.size_alloc, ← eB] at h3
    rw [hd0C_eq] at h2 h3
    rw [hd0C_eq] at eX
    refine ⟨by rw [eX, eB]; exact ((Blk.new w _ _).alloc _).alloc _, by rw [eX]; exact h2.alloc _, by rw [eX]; exact h3, ⟨⟨by decide, by decide⟩, rfl⟩, fun h hh => (by simp at hh), by rw [eX]; exact (((Only.refl _ _).alloc _).alloc _).alloc _⟩
  have hwB : w.heap.size ≤ B := by omega
  have HS0 := Lib.hid hS0
  have HCT := Lib.hid hct
  have HA := Lib.hid hA
  have HOK := Lib.hid hok
  have EX := Lib.hid eX
  have EB := Lib.hid eB
  clear hS0 hct hA hok eX eB hp hP hlen
  unfold setV
  have hnw := hdNew_run
  go_enter Tryz.func32, Tryz.ntmps32
  go_upto_region 2 with (fail)
  rw [← EB.out, ← EX.out]
  clear EX EB
  go_wp2_with fail
  go_loopw [7, 8, 9, 10] (fun fv i _ _ wr => ∃ (k : Nat) (o : Option Hd), i = .int .i64 k ∧ k ≤ L.length ∧ fv = .bool o.isSome ∧ BrL w B pv P L k o wr) (fun _ i _ _ _ => L.length - (intOf i).toNat)
  case atStart => exact ⟨0, none, rfl, Nat.zero_le _, rfl, HS0.out⟩
  case round =>
    obtain ⟨k, o, rfl, hk, rfl, hS⟩ := hrel
    have HS := Lib.hid hS
    clear hS
    by_cases hlt : k < L.length
    · obtain ⟨v, hv⟩ : ∃ v, L[k]? = some v := ⟨_, List.getElem?_eq_getElem hlt⟩
      obtain ⟨g, og, hA', hg, hr⟩ := HA.out k v hv
      subst hA'
      have vo := HOK.out v (List.mem_of_getElem? hv)
      have hl := vo.head.root
      have ik : (k : Int) < (L.length : Int) := by omega
      have ik0 : (0 : Int) ≤ (k : Int) := by omega
      have hr0 := rng_only (range_head hr hl) HS.out.only
      obtain ⟨h, eh⟩ : ∃ h, h = v.head := ⟨_, rfl⟩
      have hko : h.Ok := by rw [eh]; exact vo.head
      rw [← eh] at hr0 hl
      have l1 := hd_load hr0 hl
      obtain ⟨N, eN⟩ : ∃ N, N = wr.heap.size := ⟨_, rfl⟩
      have hb0 : Blk (wr.alloc (.cells hd0C 25)) N tHd hd0C := by rw [eN]; exact Blk.new wr _ _
      have hst := hd_store hb0 rfl hl
      rw [eN] at hst
      have hb1 : HdAt ((wr.alloc (.cells hd0C 25)).setCells N 0 (hdC h)) N h := filled_whole hb0 (by rw [hdC_len hl]; rfl)
      have hO7 : Only NoneOf wr ((wr.alloc (.cells hd0C 25)).setCells N 0 (hdC h)) := only_setCells ((Only.refl _ _).alloc _) N 0 (.inr (by omega)) _
      have zS : BrL w B pv P L k o ((wr.alloc (.cells hd0C 25)).setCells N 0 (hdC h)) := HS.out.more hO7 (Blk.only HS.out.b hO7 (fun e => e)) HS.out.ok HS.out.best
      have hDD : ∀ y, (y ∈ (L.take k).map (·.head) ∨ y = h) ↔ y ∈ (L.take (k + 1)).map (·.head) := fun y => by
        rw [List.take_add_one, hv, Option.toList_some, List.map_append, List.mem_append, eh]
        simp
      have hND : N ≠ B + 1 + 1 ∧ N ≠ B := by have h1 := HS.out.b.lt; omega
      have hnw := hdNew_run
      have ZS := Lib.hid zS
      have Z1 := Lib.hid hb1
      have HDD := Lib.hid hDD
      have EN := Lib.hid eN
      have HKO := Lib.hid hko
      clear zS hb0 hb1 hDD eN hO7 hr hr0 hko eh vo hv HS
      go_upto_region 7 with (fail)
      rw [← EN.out]
      refine wp_gen (fun Z => BrL w B pv P L k o Z ∧ HdAt Z N h) ⟨ZS.out, Z1.out⟩ ?_
      rintro Z ⟨zs, zn⟩
      clear l1 hst hnw ZS Z1
      have n0 : Z.cell? ⟨N, 0, none⟩ = some (.int .i64 h.size) := zn.cell 0
      have b0 : Z.cell? ⟨B + 1 + 1, 0, none⟩ = some (.int .i64 (hdOr o).size) := zs.b.cell 0
      have rn := root_load (range_root (blk_range zn)) hl
      have rb := root_load (range_root (blk_range zs.b)) zs.ok.root
      rw [Nat.zero_add] at rn rb
      have hles := rless_any h.root (hdOr o).root hl zs.ok.root Z
      obtain ⟨c, ec⟩ : ∃ c, c = certB P h L := ⟨_, rfl⟩
      have hcer : ∀ W, Only NoneOf Z W → Calls Tryz.prog 30 #[.agg #[pv, .int .i64 0, .slice none 0 0, .slice none 0 0, .int .i64 0, .int .i64 0], .agg (hdC h).toArray, .slice (some ⟨g, og, none⟩) L.length cap] W fun e w' => e = .returned (.bool c) ∧ Only NoneOf W w' := fun W ho => by rw [ec]; exact HCT.out h HKO.out W (zs.only.trans ho)
      have hld : ∀ W, Only NoneOf Z W → (hdLoad (.pointer (some ⟨N, 0, none⟩))).run Tryz.prog W = .ok (.agg (hdC h).toArray) W := fun W hZW => hd_load (blk_range (Blk.only zn hZW (fun e => e))) hl
      have hst : ∀ W, Only NoneOf Z W → (hdStore (.pointer (some ⟨B + 1 + 1, 0, none⟩)) (.agg (hdC h).toArray)).run Tryz.prog W = .ok () (W.setCells (B + 1 + 1) 0 (hdC h)) := fun W hZW => hd_store (Blk.only zs.b hZW (fun e => e)) (by rw [List.size_toArray, hdC_len zs.ok.root]) hl
      have hset : ∀ W, Only NoneOf Z W → W.cell? ⟨B, 0, none⟩ = some pv ∧ W.cell? ⟨B, 1, none⟩ = some (.int .i64 0) ∧ W.cell? ⟨B, 2, none⟩ = some (.slice none 0 0) ∧ W.cell? ⟨B, 3, none⟩ = some (.slice none 0 0) ∧ W.cell? ⟨B, 4, none⟩ = some (.int .i64 0) ∧ W.cell? ⟨B, 5, none⟩ = some (.int .i64 0) := fun W hZW => by
        have h := zs.s.only hZW (fun e => e)
        exact ⟨h.cell 0, h.cell 1, h.cell 2, h.cell 3, h.cell 4, h.cell 5⟩
      have hno : ∀ W, Only NoneOf Z W → (takes o h = false ∨ c = false) → BrL w B pv P L (k + 1) o W := fun W hZW ht => by
        refine zs.more hZW (Blk.only zs.b hZW (fun e => e)) zs.ok ?_
        cases hc : c with
        | false => exact (zs.best.skip (x := h) (by rw [← ec]; exact hc)).congr HDD.out
        | true =>
          rcases ht with ht | ht
          · have := (zs.best.step (x := h) (by rw [← ec]; exact hc)).congr HDD.out
            rw [ht, if_neg (by decide)] at this
            exact this
          · rw [hc] at ht; cases ht
      have hyes : ∀ W, Only NoneOf Z W → takes o h = true → c = true → BrL w B pv P L (k + 1) (some h) (W.setCells (B + 1 + 1) 0 (hdC h)) := fun W hZW ht hc => by
        have := (zs.best.step (x := h) (by rw [← ec]; exact hc)).congr HDD.out
        rw [ht, if_pos rfl] at this
        exact (zs.more hZW (Blk.only zs.b hZW (fun e => e)) zs.ok zs.best).put hwB HKO.out this
      have HLES := Lib.hid hles
      have HCER := Lib.hid hcer
      have HLD := Lib.hid hld
      have HST := Lib.hid hst
      have HSET := Lib.hid hset
      have HNO := Lib.hid hno
      have HYES := Lib.hid hyes
      clear hles hcer hld hst hset hno hyes zs zn ec HDD HKO
      cases o with
      | none =>
        have HTK : Hid (takes none h = true) := Lib.hid rfl
        clear HLES
        obtain ⟨s0, s1, s2, s3, s4, s5⟩ := HSET.out Z (Only.refl _ _)
        have hld := HLD.out Z (Only.refl _ _)
        go_wp2_with fail
        refine (HCER.out Z (Only.refl _ _)).mono ?_
        rintro e8 w8 ⟨rfl, ho8⟩
        have HO8 := Lib.hid (Only.trans (Only.refl _ _) ho8)
        clear s0 s1 s2 s3 s4 s5 hld ho8
        cases c with
        | true =>
          have hld := HLD.out w8 HO8.out
          have hst := HST.out w8 HO8.out
          have HNEW := Lib.hid (HYES.out w8 HO8.out HTK.out rfl)
          go_wp2_with fail
          go_roundw
          case rel => exact ⟨k + 1, some h, by go_num, by omega, rfl, HNEW.out⟩
          case measure => simp [intOf]; omega
        | false =>
          have HNEW := Lib.hid (HNO.out w8 HO8.out (.inr rfl))
          go_wp2_with fail
          go_roundw
          case rel => exact ⟨k + 1, none, by go_num, by omega, rfl, HNEW.out⟩
          case measure => simp [intOf]; omega
      | some c0 =>
        have b1 : Z.cell? ⟨B + 1 + 1, 0, none⟩ = some (.int .i64 c0.size) := b0
        have rb1 : (rootLoad (.pointer (some ⟨B + 1 + 1, 1, none⟩))).run Tryz.prog Z = .ok (hv c0.root) Z := rb
        have HLES2 : Hid (Calls Tryz.prog 56 #[hv h.root, hv c0.root] Z fun e w' => e = .returned (.bool (lessL h.root c0.root)) ∧ Only NoneOf Z w') := Lib.hid HLES.out
        clear b0 rb HLES
        rcases Int.lt_trichotomy c0.size h.size with hlt2 | heq | hgt
        · have HTK : Hid (takes (some c0) h = true) := Lib.hid (by unfold takes above; simp [hlt2])
          have d1 : decide (c0.size < h.size) = true := decide_eq_true hlt2
          have d2 : (h.size == c0.size) = false := by simp; omega
          clear HLES2 hlt2
          obtain ⟨s0, s1, s2, s3, s4, s5⟩ := HSET.out Z (Only.refl _ _)
          have hld := HLD.out Z (Only.refl _ _)
          go_wp2_with fail
          refine (HCER.out Z (Only.refl _ _)).mono ?_
          rintro e8 w8 ⟨rfl, ho8⟩
          have HO8 := Lib.hid (Only.trans (Only.refl _ _) ho8)
          clear s0 s1 s2 s3 s4 s5 hld ho8
          cases c with
          | true =>
            have hld := HLD.out w8 HO8.out
            have hst := HST.out w8 HO8.out
            have HNEW := Lib.hid (HYES.out w8 HO8.out HTK.out rfl)
            go_wp2_with fail
            go_roundw
            case rel => exact ⟨k + 1, some h, by go_num, by omega, rfl, HNEW.out⟩
            case measure => simp [intOf]; omega
          | false =>
            have HNEW := Lib.hid (HNO.out w8 HO8.out (.inr rfl))
            go_wp2_with fail
            go_roundw
            case rel => exact ⟨k + 1, some c0, by go_num, by omega, rfl, HNEW.out⟩
            case measure => simp [intOf]; omega
        · have d1 : decide (c0.size < h.size) = false := decide_eq_false (by omega)
          have d2 : (h.size == c0.size) = true := by simp [heq]
          have htk : takes (some c0) h = lessL h.root c0.root := by unfold takes above; simp [heq]
          obtain ⟨β, hβ⟩ : ∃ β, β = lessL h.root c0.root := ⟨_, rfl⟩
          rw [← hβ] at HLES2 htk
          have HTK := Lib.hid htk
          clear heq hβ htk
          go_wp2_with fail
          refine HLES2.out.mono ?_
          rintro e6 w6 ⟨rfl, ho6⟩
          have HO6 := Lib.hid ho6
          clear ho6 HLES2
          cases β with
          | true =>
            obtain ⟨s0, s1, s2, s3, s4, s5⟩ := HSET.out w6 HO6.out
            have hld := HLD.out w6 HO6.out
            go_wp2_with fail
            refine (HCER.out w6 HO6.out).mono ?_
            rintro e8 w8 ⟨rfl, ho8⟩
            have HO8 := Lib.hid (Only.trans HO6.out ho8)
            clear s0 s1 s2 s3 s4 s5 hld ho8
            cases c with
            | true =>
              have hld := HLD.out w8 HO8.out
              have hst := HST.out w8 HO8.out
              have HNEW := Lib.hid (HYES.out w8 HO8.out HTK.out rfl)
              go_wp2_with fail
              go_roundw
              case rel => exact ⟨k + 1, some h, by go_num, by omega, rfl, HNEW.out⟩
              case measure => simp [intOf]; omega
            | false =>
              have HNEW := Lib.hid (HNO.out w8 HO8.out (.inr rfl))
              go_wp2_with fail
              go_roundw
              case rel => exact ⟨k + 1, some c0, by go_num, by omega, rfl, HNEW.out⟩
              case measure => simp [intOf]; omega
          | false =>
            have HNEW := Lib.hid (HNO.out w6 HO6.out (.inl HTK.out))
            go_wp2_with fail
            go_roundw
            case rel => exact ⟨k + 1, some c0, by go_num, by omega, rfl, HNEW.out⟩
            case measure => simp [intOf]; omega
        · have HTK : Hid (takes (some c0) h = false) := Lib.hid (by show (decide (c0.size < h.size) || decide (h.size = c0.size) && lessL h.root c0.root) = false; rw [decide_eq_false (show ¬ c0.size < h.size by omega), decide_eq_false (show ¬ h.size = c0.size by omega)]; rfl)
          have d1 : decide (c0.size < h.size) = false := decide_eq_false (by omega)
          have d2 : (h.size == c0.size) = false := by simp; omega
          clear HLES2 hgt
          have HNEW := Lib.hid (HNO.out Z (Only.refl _ _) (.inl HTK.out))
          go_wp2_with fail
          go_roundw
          case rel => exact ⟨k + 1, some c0, by go_num, by omega, rfl, HNEW.out⟩
          case measure => simp [intOf]; omega
    · obtain rfl : k = L.length := by omega
      have hfin := HS.out.best
      rw [List.take_length] at hfin
      have hld := hd_load (blk_range HS.out.b) HS.out.ok.root
      have hst := hd_store HS.out.r (by kernel_rfl) HS.out.ok.root
      have hb8 : HdAt (wr.setCells (B + 1) 0 (hdC (hdOr o))) (B + 1) (hdOr o) := filled_whole HS.out.r (by rw [hdC_len HS.out.ok.root]; rfl)
      have ho8 : Only NoneOf w (wr.setCells (B + 1) 0 (hdC (hdOr o))) := only_setCells HS.out.only (B + 1) 0 (.inr (by omega)) _
      have HFIN := Lib.hid hfin
      have HB8 := Lib.hid hb8
      have HO8 := Lib.hid ho8
      have HKK := Lib.hid HS.out.ok.root
      clear hfin hb8 ho8
      go_wp2_with fail
      refine bodyPost_ret (v := .tuple #[.agg (hdC (hdOr o)).toArray, .bool o.isSome]) (read_hd rfl rfl rfl HB8.out HKK.out) rfl ⟨o, HFIN.out, rfl, HO8.out⟩
end Go.Proofs.YtoehfainhmfghaaGreatDoor
namespace Go.Proofs.YtoehfainhmfghaaGreatDoor
open Go.RowKit Go.Shelf
attribute [local go_sem ↓ high] suStore_eq
/-- What lies there when the odd persons are put in. -/
structure StQ (w : World) (R V : Nat) (m : Nat) (pv : Value) (P : List Pers) (W : World) : Prop where
  res : Blk W R tSu #[.slice none 0 0, .int .i64 0, .slice none 0 0, .slice none 0 0, .int .i64 0, .int .i64 0]
  st : Blk W V tSu #[pv, .int .i64 0, .slice none 0 0, .slice none 0 0, .int .i64 0, .int .i64 0]
  own : PerOwn W w.heap.size pv m P
  only : Only NoneOf w W
set_option maxRecDepth 100000 in
set_option maxHeartbeats 4000000 in
theorem setup_odd (n : Int) (hn : In n) (w : World) : Calls Tryz.prog 16 #[.int .i64 n, .bool true] w fun e' w' => ∃ pv, e' = .returned (setV pv) ∧ PerSl w' pv (setO (nOff n) true) ∧ Only NoneOf w w' := by
  obtain ⟨ie, z, hie, hsz, hz, hzc, hby⟩ := pers_info3
  obtain ⟨n0, n1⟩ := hn
  obtain ⟨R, eR⟩ : ∃ R, R = w.heap.size := ⟨_, rfl⟩
  obtain ⟨G, eG⟩ : ∃ G, G = R + 1 := ⟨_, rfl⟩
  obtain ⟨V, eV⟩ : ∃ V, V = G + 1 := ⟨_, rfl⟩
  obtain ⟨pc, epc⟩ : ∃ x : Int, x = (pub (secI 50) : Int) := ⟨_, rfl⟩
  obtain ⟨X, eX⟩ : ∃ X, X = (((w.alloc (.cells #[.slice none 0 0, .int .i64 0, .slice none 0 0, .slice none 0 0, .int .i64 0, .int .i64 0] 39)).alloc (.cells #[.int .i64 50, .int .i64 1, .int .i64 pc] 64)).alloc (.cells #[.slice none 0 0, .int .i64 0, .slice none 0 0, .slice none 0 0, .int .i64 0, .int .i64 0] 39)).setCells V 0 [.slice (some ⟨G, 0, none⟩) 1 1, .int .i64 0, .slice none 0 0, .slice none 0 0, .int .i64 0, .int .i64 0] := ⟨_, rfl⟩
  have h3 : Blk (((w.alloc (.cells #[.slice none 0 0, .int .i64 0, .slice none 0 0, .slice none 0 0, .int .i64 0, .int .i64 0] 39)).alloc (.cells #[.int .i64 50, .int .i64 1, .int .i64 pc] 64)).alloc (.cells #[.slice none 0 0, .int .i64 0, .slice none 0 0, .slice none 0 0, .int .i64 0, .int .i64 0] 39)) V tSu #[.slice none 0 0, .int .i64 0, .slice none 0 0, .slice none 0 0, .int .i64 0, .int .i64 0] := by
    have h3 := Blk.new ((w.alloc (.cells #[.slice none 0 0, .int .i64 0, .slice none 0 0, .slice none 0 0, .int .i64 0, .int .i64 0] 39)).alloc (.cells #[.int .i64 50, .int .i64 1, .int .i64 pc] 64)) tSu #[.slice none 0 0, .int .i64 0, .slice none 0 0, .slice none 0 0, .int .i64 0, .int .i64 0]
    rw [World.size_alloc, World.size_alloc, ← eR, ← eG, ← eV] at h3
    exact h3
  have hst0 := su_store (n := 1) (c := 1) (A := some ⟨G, 0, none⟩) h3 rfl
  have hs0 : StS w R V 0 (.slice (some ⟨G, 0, none⟩) 1 1) X := by
    have h2 := Blk.new (w.alloc (.cells #[.slice none 0 0, .int .i64 0, .slice none 0 0, .slice none 0 0, .int .i64 0, .int .i64 0] 39)) 64 #[.int .i64 50, .int .i64 1, .int .i64 pc]
    rw [World.size_alloc, ← eR, ← eG] at h2
    refine ⟨by rw [eX]; exact Blk.farCells (by omega) _ 0 (by rw [eR]; exact ((Blk.new w _ _).alloc _).alloc _), by rw [eX]; exact filled_whole h3 rfl, ⟨rfl, .inr ⟨G, 1, #[.int .i64 50, .int .i64 1, .int .i64 pc], rfl, by omega, by rw [eX]; exact Blk.farCells (by omega) _ 0 (h2.alloc _), Nat.le_refl _, by rw [maxLen_val]; omega, rfl, ?_⟩⟩, by rw [eX]; exact only_setCells ((((Only.refl _ _).alloc _).alloc _).alloc _) V 0 (.inr (by omega)) _⟩
    rw [epc]
    rfl
  have hsec := fun W => secret_any 50 (by omega) (by omega) W
  have hpub : ∀ W, Calls Tryz.prog 39 #[.int .i64 (secI 50)] W fun e' w' => e' = .returned (.int .i64 pc) ∧ w' = W := fun W => by rw [epc]; exact rpub_any _ W
  have HS0 := Lib.hid hs0
  have HSEC := Lib.hid hsec
  have HPUB := Lib.hid hpub
  have HPC := Lib.hid epc
  have HIE := Lib.hid hie
  have HSZ := Lib.hid hsz
  have HZ := Lib.hid hz
  have HZC := Lib.hid hzc
  have HBY := Lib.hid hby
  have EX := Lib.hid eX
  have ER := Lib.hid eR
  have EG := Lib.hid eG
  have EV := Lib.hid eV
  have hwR : w.heap.size ≤ R ∧ R ≠ V ∧ w.heap.size ≤ V := by omega
  obtain ⟨hwR1, hRV, hwV⟩ := hwR
  rw [eG, eV, eG, eR] at hst0
  clear hs0 hsec hpub hie hsz hz hzc hby eX eR eG eV epc h3
  unfold setV
  go_enter Tryz.func16, Tryz.ntmps16
  go_wp2_with fail
  refine (HSEC.out _).mono ?_
  rintro e1 w1 ⟨rfl, rfl⟩
  go_wp2_with fail
  refine (HPUB.out _).mono ?_
  rintro e2 w2 ⟨rfl, rfl⟩
  go_upto_region 2 with (fail)
  clear hst0
  rw [← ER.out, ← EG.out, ← EV.out, ← EX.out]
  refine wp_gen (StS w R V 0 (.slice (some ⟨G, 0, none⟩) 1 1)) HS0.out ?_
  intro Y hY
  have HY := Lib.hid hY
  clear hY HS0
  go_wp2_with fail
  go_loopw [6] (fun i wr => ∃ (q : Nat) (pv : Value), i = .int .i64 (q : Int) ∧ 1 ≤ q ∧ q ≤ nOff n + 1 ∧ StS w R V (q - 1) pv wr) (fun i _ => 14 - (intOf i).toNat)
  case atStart => exact ⟨1, _, rfl, by omega, by omega, HY.out⟩
  case round =>
    obtain ⟨q, pv, rfl, hq1, hq2, hS⟩ := hrel
    have hno := nOff_le n
    by_cases hlt : q ≤ nOff n
    · have hle : (q : Int) ≤ min n 13 := by unfold nOff at hlt; omega
      obtain ⟨m, rfl⟩ : ∃ m, q = m + 1 := ⟨q - 1, by omega⟩
      rw [Nat.add_sub_cancel] at hS
      obtain ⟨k, ek⟩ : ∃ k : Nat, k = m + 1 := ⟨_, rfl⟩
      rw [← ek] at hle ⊢
      obtain ⟨pk, epk⟩ : ∃ x : Int, x = (pub (secI k) : Int) := ⟨_, rfl⟩
      have hpc : persC (offAt k) = [.int .i64 (k : Int), .int .i64 2, .int .i64 pk] := by rw [epk]; rfl
      have hsec : ∀ W, Calls Tryz.prog 23 #[.int .i64 (k : Int)] W fun e' w' => e' = .returned (.int .i64 (secI (k : Int))) ∧ w' = W := fun W => secret_any (k : Int) (by omega) (by omega) W
      have hpub : ∀ W, Calls Tryz.prog 39 #[.int .i64 (secI (k : Int))] W fun e' w' => e' = .returned (.int .i64 pk) ∧ w' = W := fun W => by rw [epk]; exact rpub_any _ W
      have hcells : (setB (m + 1)).flatMap persC = (setB m).flatMap persC ++ [.int .i64 (k : Int), .int .i64 2, .int .i64 pk] := by
        rw [setB_snoc, List.flatMap_append, List.flatMap_cons, List.flatMap_nil, List.append_nil, ← ek, hpc]
      have c0 : wr.cell? ⟨V, 0, none⟩ = some pv := hS.st.cell 0
      have HS := Lib.hid hS
      have HSECK := Lib.hid hsec
      have HPUBK := Lib.hid hpub
      have HCELLS := Lib.hid hcells
      have hall : ∀ o, ((wr.alloc o).drew).ownsRow w.heap.size 64 3 pv (m + 1) ((setB m).flatMap persC) := fun o => World.ownsRow.alloc HS.out.own o
      have hne : pv.ownBlock ≠ some V := own_blk_ne HS.out.own HS.out.st (by decide)
      have hneR : pv.ownBlock ≠ some R := own_blk_ne HS.out.own HS.out.res (by decide)
      have hgr : ∀ o w1, (((wr.alloc o).drew).grownBy w1 pv.ownBlock) → Blk w1 V tSu #[pv, .int .i64 0, .slice none 0 0, .slice none 0 0, .int .i64 0, .int .i64 0] ∧ Blk w1 R tSu #[.slice none 0 0, .int .i64 0, .slice none 0 0, .slice none 0 0, .int .i64 0, .int .i64 0] ∧ Only NoneOf w w1 := fun o w1 hg =>
        ⟨((HS.out.st.alloc o).drew).grown hg (Ne.symm hne), ((HS.out.res.alloc o).drew).grown hg (Ne.symm hneR), ((HS.out.only.alloc o).drew).grown hg (fun j e => .inr (own_ge HS.out.own e).1)⟩
      have HALL := Lib.hid hall
      have HGR := Lib.hid hgr
      have HSZZ := Lib.hid HS.out.only.size
      have ca : ∀ o, (wr.alloc o).cell? ⟨V, 0, none⟩ = some pv := fun o => (HS.out.st.alloc o).cell 0
      have HEK := Lib.hid ek
      have hkm : k ≤ 13 ∧ m ≤ 12 := by omega
      obtain ⟨hk13, hm12⟩ := hkm
      clear hS hsec hpub hcells hpc hall hne hneR hgr epk ek hq1 hq2 hlt
      go_upto_region 5 with (fail)
      go_region_law (first
        | (refine step_append_lies _ (by rfl) _ _ _ (by rfl) w.heap.size 64 ie z 3 24 Tryz.underlying35 HIE.out HZ.out HSZ.out HBY.out HZC.out (by omega) pv (m + 1) ((setB m).flatMap persC) (by rfl) (HALL.out _) ⟨wr.heap.size, 0, none⟩ 1 1 [.int .i64 (k : Int), .int .i64 2, .int .i64 pk] (by rfl) (by rfl) (World.news_of_block (cs := #[.int .i64 (k : Int), .int .i64 2, .int .i64 pk]) (t := 64) (fr := (0, 0)) (heap_alloc_new wr _)) (by simp [Value.oneCell']) (by omega) (by rw [maxLen_val]; omega) (by omega) (by have := HSZZ.out; simp; omega) (wr.heap.size + 1) (by simp) ?_; intro g cap w1 hown1 hgrow hat hlt1; have hb1 := HGR.out _ w1 hgrow; have hf1 := hb1.1.frozen 0; have hc1 := hb1.1.cell 0; simp only [List.getElem?_toArray, List.getElem?_cons_zero] at hc1)
        | (go_simp; go_at_call 23; refine (HSECK.out _).mono ?_; rintro e1 w3 ⟨rfl, rfl⟩)
        | (go_simp; go_at_call 39; refine (HPUBK.out _).mono ?_; rintro e2 w2 ⟨rfl, rfl⟩))
      all_goals
        have hgne : (Value.slice (some ⟨g, 0, none⟩) (m + 1 + 1) cap).ownBlock ≠ some V := own_blk_ne hown1 hb1.1 (by decide)
        have hnew : StS w R V (m + 1) (.slice (some ⟨g, 0, none⟩) (m + 1 + 1) cap) (w1.setCell ⟨V, 0, none⟩ (.slice (some ⟨g, 0, none⟩) (m + 1 + 1) cap)) := by
          refine ⟨Blk.far (p := ⟨V, 0, none⟩) hb1.2.1 hRV _, Blk.set_ hb1.1 0 _, ?_, hb1.2.2.setCell (p := ⟨V, 0, none⟩) (.inr hwV) _⟩
          unfold PerOwn
          rw [HCELLS.out]
          exact own_far hown1 (p := ⟨V, 0, none⟩) hgne _
        have HNEW := Lib.hid hnew
        clear hb1 hgne hnew hown1 hgrow hat hlt1 hf1 hc1 ca c0
        go_wp2_with fail
        go_roundw
        case rel => exact ⟨k + 1, _, by go_num, by omega, by have := HEK.out; unfold nOff; omega, by rw [Nat.add_sub_cancel, HEK.out]; exact HNEW.out⟩
        case measure => simp [intOf]; omega
    · have hqe : q = nOff n + 1 := by omega
      have hle : ¬ (q : Int) ≤ min n 13 := by rw [hqe]; unfold nOff; omega
      rw [hqe, Nat.add_sub_cancel] at hS
      obtain ⟨N, eN⟩ : ∃ N, N = nOff n + 1 := ⟨_, rfl⟩
      have hNl : N ≤ 14 := by rw [eN]; have := nOff_le n; omega
      obtain ⟨p2, ep2⟩ : ∃ x : Int, x = (pub (secI 2) : Int) := ⟨_, rfl⟩
      have hsec2 : ∀ W, Calls Tryz.prog 23 #[.int .i64 2] W fun e' w' => e' = .returned (.int .i64 (secI 2)) ∧ w' = W := fun W => secret_any 2 (by omega) (by omega) W
      have hpub2 : ∀ W, Calls Tryz.prog 39 #[.int .i64 (secI 2)] W fun e' w' => e' = .returned (.int .i64 p2) ∧ w' = W := fun W => by rw [ep2]; exact rpub_any _ W
      have hcells : (setO (nOff n) true).flatMap persC = (setB (nOff n)).flatMap persC ++ [.int .i64 50, .int .i64 2, .int .i64 pc, .int .i64 1, .int .i64 2, .int .i64 p2] := by
        rw [HPC.out, ep2]
        unfold setO
        rw [List.flatMap_append]
        rfl
      have c0 : wr.cell? ⟨V, 0, none⟩ = some pv := hS.st.cell 0
      have hall : ∀ o, ((wr.alloc o).drew).ownsRow w.heap.size 64 3 pv N ((setB (nOff n)).flatMap persC) := fun o => by rw [eN]; exact World.ownsRow.alloc hS.own o
      have hne : pv.ownBlock ≠ some V := own_blk_ne hS.own hS.st (by decide)
      have hneR : pv.ownBlock ≠ some R := own_blk_ne hS.own hS.res (by decide)
      have hgr : ∀ o w1, (((wr.alloc o).drew).grownBy w1 pv.ownBlock) → Blk w1 V tSu #[pv, .int .i64 0, .slice none 0 0, .slice none 0 0, .int .i64 0, .int .i64 0] ∧ Blk w1 R tSu #[.slice none 0 0, .int .i64 0, .slice none 0 0, .slice none 0 0, .int .i64 0, .int .i64 0] ∧ Only NoneOf w w1 := fun o w1 hg =>
        ⟨((hS.st.alloc o).drew).grown hg (Ne.symm hne), ((hS.res.alloc o).drew).grown hg (Ne.symm hneR), ((hS.only.alloc o).drew).grown hg (fun j e => .inr (own_ge hS.own e).1)⟩
      have ca : ∀ o, (wr.alloc o).cell? ⟨V, 0, none⟩ = some pv := fun o => (hS.st.alloc o).cell 0
      have HALL := Lib.hid hall
      have HGR := Lib.hid hgr
      have HSZZ := Lib.hid hS.only.size
      have HCELLS := Lib.hid hcells
      have HSEC2 := Lib.hid hsec2
      have HPUB2 := Lib.hid hpub2
      have HEN := Lib.hid eN
      clear hsec2 hpub2 hcells ep2 hS eN hqe hq1 hq2 hlt hall hne hneR hgr
      go_upto_region 7 with (fail)
      go_cut [] (fun wx => ∃ g cap, StQ w R V (N + 2) (.slice (some ⟨g, 0, none⟩) (N + 2) cap) (setO (nOff n) true) wx)
      case first =>
       go_region_law (first
        | (refine step_append_lies _ (by rfl) _ _ _ (by rfl) w.heap.size 64 ie z 3 24 Tryz.underlying35 HIE.out HZ.out HSZ.out HBY.out HZC.out (by omega) pv N ((setB (nOff n)).flatMap persC) (by rfl) (HALL.out _) ⟨wr.heap.size, 0, none⟩ 2 2 [.int .i64 50, .int .i64 2, .int .i64 pc, .int .i64 1, .int .i64 2, .int .i64 p2] (by rfl) (by rfl) (World.news_of_block (cs := #[.int .i64 50, .int .i64 2, .int .i64 pc, .int .i64 1, .int .i64 2, .int .i64 p2]) (t := 64) (fr := (0, 0)) (heap_alloc_new wr _)) (by simp [Value.oneCell']) (by omega) (by rw [maxLen_val]; omega) (by omega) (by have := HSZZ.out; simp; omega) (wr.heap.size + 1) (by simp) ?_; intro g cap w1 hown1 hgrow hat hlt1; have hb1 := HGR.out _ w1 hgrow; have hf1 := hb1.1.frozen 0; have hc1 := hb1.1.cell 0; simp only [List.getElem?_toArray, List.getElem?_cons_zero] at hc1)
        | (go_simp; go_at_call 23; (first | refine (HSEC.out _).mono ?_ | refine (HSEC2.out _).mono ?_); rintro e1 w3 ⟨rfl, rfl⟩)
        | (go_simp; go_at_call 39; (first | refine (HPUB.out _).mono ?_ | refine (HPUB2.out _).mono ?_); rintro e2 w2 ⟨rfl, rfl⟩))
       all_goals
        have hgne : (Value.slice (some ⟨g, 0, none⟩) (N + 2) cap).ownBlock ≠ some V := own_blk_ne hown1 hb1.1 (by decide)
        have hnew : StQ w R V (N + 2) (.slice (some ⟨g, 0, none⟩) (N + 2) cap) (setO (nOff n) true) (w1.setCell ⟨V, 0, none⟩ (.slice (some ⟨g, 0, none⟩) (N + 2) cap)) := by
          refine ⟨Blk.far (p := ⟨V, 0, none⟩) hb1.2.1 hRV _, Blk.set_ hb1.1 0 _, ?_, hb1.2.2.setCell (p := ⟨V, 0, none⟩) (.inr hwV) _⟩
          unfold PerOwn
          rw [HCELLS.out]
          exact own_far hown1 (p := ⟨V, 0, none⟩) hgne _
        have HNEW := Lib.hid hnew
        clear hb1 hgne hnew hown1 hgrow hat hlt1 hf1 hc1
        go_wp2_with fail
        go_meet
        case rel => exact ⟨_, _, HNEW.out⟩
      case rest =>
      obtain ⟨g, cap, hS⟩ := hcut
      clear c0 ca HALL HGR
      have hlen : (setO (nOff n) true).length = N + 2 := by
        have := HEN.out
        unfold setO
        rw [List.length_append, setB_len, this]; rfl
      have hown := hS.own
      obtain ⟨pA, epA⟩ : ∃ pA : Option Addr, pA = some ⟨g, 0, none⟩ := ⟨_, rfl⟩
      rw [← epA] at hS hown
      have r0 := hS.res.cell 0
      have r1 := hS.res.cell 1
      have r2 := hS.res.cell 2
      have r3 := hS.res.cell 3
      have r4 := hS.res.cell 4
      have r5 := hS.res.cell 5
      have c0 := hS.st.cell 0
      have c1 := hS.st.cell 1
      have c2 := hS.st.cell 2
      have c3 := hS.st.cell 3
      have c4 := hS.st.cell 4
      have c5 := hS.st.cell 5
      simp only [List.getElem?_toArray, List.getElem?_cons_zero, List.getElem?_cons_succ] at c0 c1 c2 c3 c4 c5 r0 r1 r2 r3 r4 r5
      have hinf : (Tryz.prog.info? tSu).map (·.size) = some 6 := by kernel_rfl
      have hb2 : Blk (wc.setCells R 0 [.slice pA (N + 2) cap, .int .i64 0, .slice none 0 0, .slice none 0 0, .int .i64 0, .int .i64 0]) R tSu #[.slice pA (N + 2) cap, .int .i64 0, .slice none 0 0, .slice none 0 0, .int .i64 0, .int .i64 0] := filled_whole hS.res rfl
      have hst := su_store (n := N + 2) (c := cap) (A := pA) hS.res rfl
      have ho2 : Only NoneOf w (wc.setCells R 0 [.slice pA (N + 2) cap, .int .i64 0, .slice none 0 0, .slice none 0 0, .int .i64 0, .int .i64 0]) := only_setCells hS.only R 0 (.inr hwR1) _
      have hsl2 : PerSl (wc.setCells R 0 [.slice pA (N + 2) cap, .int .i64 0, .slice none 0 0, .slice none 0 0, .int .i64 0, .int .i64 0]) (.slice pA (N + 2) cap) (setO (nOff n) true) := by
        have h1 := own_blk_ne hown hS.res (by decide)
        have h2 : PerOwn (wc.setCells R 0 [.slice pA (N + 2) cap, .int .i64 0, .slice none 0 0, .slice none 0 0, .int .i64 0, .int .i64 0]) w.heap.size (.slice pA (N + 2) cap) (N + 2) (setO (nOff n) true) :=
          own_only hown (only_setCells (S := fun k => k = R) (Only.refl _ _) R 0 (.inl rfl) _) (fun k hk e => h1 (by rw [hk, e]))
        exact PerOwn.sl (by rw [hlen]; exact h2)
      have HB2 := Lib.hid hb2
      have HO2 := Lib.hid ho2
      have HSL := Lib.hid hsl2
      have HI := Lib.hid hinf
      clear hS hsl2 hb2 ho2 hinf hown hlen epA
      go_wp2_with fail
      refine bodyPost_ret (v := .agg #[.slice pA (N + 2) cap, .int .i64 0, .slice none 0 0, .slice none 0 0, .int .i64 0, .int .i64 0]) (results_blk rfl rfl HB2.out Tryz.underlying39 rfl (by simpa using HI.out)) rfl ⟨_, rfl, HSL.out, HO2.out⟩
end Go.Proofs.YtoehfainhmfghaaGreatDoor
namespace Go.Proofs.YtoehfainhmfghaaGreatDoor
open Go.RowKit Go.Shelf
theorem setupO_any (n : Int) (hn : In n) (odd : Bool) (w : World) : Calls Tryz.prog 16 #[.int .i64 n, .bool odd] w fun e' w' => ∃ pv, e' = .returned (setV pv) ∧ PerSl w' pv (setO (nOff n) odd) ∧ Only NoneOf w w' := by
  cases odd with
  | true => exact setup_odd n hn w
  | false => rw [setO_false]; exact setup_any n hn w
theorem setO_ok (n : Int) (odd : Bool) : PersOk (setO (nOff n) odd) := fun p hp => by
  unfold setO at hp
  rcases List.mem_append.1 hp with hp | hp
  · exact setB_ok (nOff n) (by have := nOff_le n; omega) p hp
  · have h50 : In (50 : Int) := ⟨by omega, by omega⟩
    have h1 : In (1 : Int) := ⟨by omega, by omega⟩
    have h2 : In (2 : Int) := ⟨by omega, by omega⟩
    split at hp
    · simp only [List.mem_cons, List.not_mem_nil, or_false] at hp
      rcases hp with rfl | rfl
      · exact ⟨h50, h2, gp_in _⟩
      · exact ⟨h1, h2, gp_in _⟩
    · cases hp
theorem setO_small (n : Int) (odd : Bool) : (setO (nOff n) odd).length ≤ 1000 := by
  have h1 := setO_len (nOff n) odd
  have h2 := nOff_le n
  omega
/-- What the laws keep: the setup, its persons, the votes. -/
structure LwS (w : World) (B : Nat) (pv : Value) (P : List Pers) (sv : Value) (L : List Vt) (W : World) : Prop where
  su : Blk W B tSu #[pv, .int .i64 0, .slice none 0 0, .slice none 0 0, .int .i64 0, .int .i64 0]
  per : PerSl W pv P
  vts : VtSl W sv L
  only : Only NoneOf w W
theorem LwS.keep {w : World} {B : Nat} {pv : Value} {P : List Pers} {sv : Value} {L : List Vt} {W W' : World} (h : LwS w B pv P sv L W) (ho : Only NoneOf W W') : LwS w B pv P sv L W' :=
  ⟨h.su.only ho (fun e => e), h.per.only ho, h.vts.only ho, h.only.trans ho⟩
theorem LwS.cells {w : World} {B : Nat} {pv : Value} {P : List Pers} {sv : Value} {L : List Vt} {W : World} (h : LwS w B pv P sv L W) : W.cell? ⟨B, 0, none⟩ = some pv ∧ W.cell? ⟨B, 1, none⟩ = some (.int .i64 0) ∧ W.cell? ⟨B, 2, none⟩ = some (.slice none 0 0) ∧ W.cell? ⟨B, 3, none⟩ = some (.slice none 0 0) ∧ W.cell? ⟨B, 4, none⟩ = some (.int .i64 0) ∧ W.cell? ⟨B, 5, none⟩ = some (.int .i64 0) :=
  ⟨h.su.cell 0, h.su.cell 1, h.su.cell 2, h.su.cell 3, h.su.cell 4, h.su.cell 5⟩
end Go.Proofs.YtoehfainhmfghaaGreatDoor
