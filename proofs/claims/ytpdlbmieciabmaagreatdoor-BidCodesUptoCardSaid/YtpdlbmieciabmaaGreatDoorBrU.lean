/- What is proved here: the reference's cursor passes lists of numbers and texts in hexadecimal. Conditions: the text is short. -/
import Derived.Test.YtpdlbmieciabmaaGreatDoorBrS
import Derived.Test.YtpdlbmieciabmaaGreatDoorBrC
namespace Go.Proofs.YtpdlbmieciabmaaGreatDoor
open Go.RowKit Go.Shelf
attribute [local go_sem ↓ high] aph_eq
set_option maxRecDepth 100000 in
set_option maxHeartbeats 1000000 in
theorem rdigit_any (c : UInt8) (w : World) : Calls Tryz.prog 79 #[.int .u8 (c.toNat : Int)] w fun e w' => e = .returned (.int .i64 (dgt c)) ∧ w' = w := by
  have hc := c.toNat_lt
  by_cases h1 : 48 ≤ c.toNat ∧ c.toNat ≤ 57
  · have hd : dgt c = (c.toNat : Int) - 48 := by unfold dgt; rw [if_pos h1]
    have d1 : decide ((48 : Int) ≤ (c.toNat : Int)) = true := decide_eq_true (by omega)
    have d2 : decide ((c.toNat : Int) ≤ 57) = true := decide_eq_true (by omega)
    have e1 : (48 : Int) ≤ (c.toNat : Int) := by omega
    have e2 : (c.toNat : Int) ≤ 57 := by omega
    have w8 : IntKind.u8.wrap ((c.toNat : Int) - 48) = (c.toNat : Int) - 48 := by
      simp only [IntKind.wrap, IntKind.bits, IntKind.signed]
      simp
      omega
    have wd : IntKind.i64.wrap ((c.toNat : Int) - 48) = (c.toNat : Int) - 48 := IntWalk.i64_in _ (by omega)
    rw [hd]
    clear h1 hd
    go_enter Tryz.func79, Tryz.ntmps79
    go_wp2_with fail
    go_ret
    exact ⟨rfl, rfl⟩
  · by_cases h2 : 97 ≤ c.toNat ∧ c.toNat ≤ 102
    · have hd : dgt c = (c.toNat : Int) - 87 := by unfold dgt; rw [if_neg h1, if_pos h2]
      have d1 : decide ((48 : Int) ≤ (c.toNat : Int)) = true := decide_eq_true (by omega)
      have d2 : decide ((c.toNat : Int) ≤ 57) = false := decide_eq_false (by omega)
      have d3 : decide ((97 : Int) ≤ (c.toNat : Int)) = true := decide_eq_true (by omega)
      have d4 : decide ((c.toNat : Int) ≤ 102) = true := decide_eq_true (by omega)
      have e1 : (48 : Int) ≤ (c.toNat : Int) := by omega
      have e2 : ¬ (c.toNat : Int) ≤ 57 := by omega
      have e3 : (97 : Int) ≤ (c.toNat : Int) := by omega
      have e4 : (c.toNat : Int) ≤ 102 := by omega
      have w8 : IntKind.u8.wrap ((c.toNat : Int) - 97) = (c.toNat : Int) - 97 := by
        simp only [IntKind.wrap, IntKind.bits, IntKind.signed]
        simp
        omega
      have wd : IntKind.i64.wrap ((c.toNat : Int) - 97) = (c.toNat : Int) - 97 := IntWalk.i64_in _ (by omega)
      have we : IntKind.i64.wrap ((c.toNat : Int) - 97 + 10) = (c.toNat : Int) - 87 := by
        rw [show (c.toNat : Int) - 97 + 10 = (c.toNat : Int) - 87 by omega]
        exact IntWalk.i64_in _ (by omega)
      rw [hd]
      clear h1 h2 hd
      go_enter Tryz.func79, Tryz.ntmps79
      go_wp2_with fail
      go_ret
      exact ⟨rfl, rfl⟩
    · have hd : dgt c = -1 := by unfold dgt; rw [if_neg h1, if_neg h2]
      rw [hd]
      go_enter Tryz.func79, Tryz.ntmps79
      by_cases e1 : (48 : Int) ≤ (c.toNat : Int)
      · have d1 : decide ((48 : Int) ≤ (c.toNat : Int)) = true := decide_eq_true e1
        have e2 : ¬ (c.toNat : Int) ≤ 57 := by omega
        have d2 : decide ((c.toNat : Int) ≤ 57) = false := decide_eq_false e2
        by_cases e3 : (97 : Int) ≤ (c.toNat : Int)
        · have d3 : decide ((97 : Int) ≤ (c.toNat : Int)) = true := decide_eq_true e3
          have e4 : ¬ (c.toNat : Int) ≤ 102 := by omega
          have d4 : decide ((c.toNat : Int) ≤ 102) = false := decide_eq_false e4
          clear h1 h2 hd
          go_wp2_with fail
          go_ret
          exact ⟨rfl, rfl⟩
        · have d3 : decide ((97 : Int) ≤ (c.toNat : Int)) = false := decide_eq_false e3
          clear h1 h2 hd
          go_wp2_with fail
          go_ret
          exact ⟨rfl, rfl⟩
      · have d1 : decide ((48 : Int) ≤ (c.toNat : Int)) = false := decide_eq_false e1
        have e3 : ¬ (97 : Int) ≤ (c.toNat : Int) := by omega
        have d3 : decide ((97 : Int) ≤ (c.toNat : Int)) = false := decide_eq_false e3
        clear h1 h2 hd
        go_wp2_with fail
        go_ret
        exact ⟨rfl, rfl⟩
def slLen : Value → Nat
  | .slice _ n _ => n
  | _ => 0
/-- What passing numbers keeps. -/
structure ComS (s : ByteArray) (a C : Nat) (b : Bool) (w : World) (v : Value) (ns : List Int) (cur : Nat) (b' : Bool) (W : World) : Prop where
  inv : CommI s.data.toList a cur ns b b'
  le : cur ≤ s.size
  few : ns.length ≤ cur
  cur : Cur W C s cur b'
  own : OwnOf 3 inC 1 W w.heap.size v ns.length ns
  only : Only (· = C) w W
set_option maxRecDepth 100000 in
set_option maxHeartbeats 2000000 in
theorem commits_any {w : World} {C : Nat} {s : ByteArray} {a : Nat} {b : Bool} (h : Cur w C s a b) (ha : a ≤ s.size) (hs : s.size ≤ 1000000000) :
    Calls Tryz.prog 50 #[curP C] w fun e w' => ∃ a' ns b' rv, e = .returned rv ∧ CommC s.data.toList a a' ns b b' ∧ a' ≤ s.size ∧ Cur w' C s a' b' ∧ OwnOf 3 inC 1 w' w.heap.size rv ns.length ns ∧ Only (· = C) w w' := by
  have HST : Hid (ComS s a C b w (.slice none 0 0) [] a b w) := Lib.hid ⟨CommI.new (by rw [← size_list]; exact ha) b, ha, Nat.zero_le _, h, OwnOf.nil _ _ _ _ _, Only.refl _ _⟩
  have hCw : C < w.heap.size := Blk.lt h
  clear h
  go_enter Tryz.func50, Tryz.ntmps50
  go_wp2_with fail
  go_loopw [3] (fun v wr => ∃ ns cur b', ComS s a C b w v ns cur b' wr) (fun v _ => s.size - slLen v)
  case atStart => exact ⟨[], a, b, HST.out⟩
  case round =>
    obtain ⟨ns, cur, b', hS⟩ := hrel
    have HS := Lib.hid hS
    obtain ⟨A, cap, rfl, hc1, hc2⟩ := own_form' hS.own
    have hle := hS.le
    have hfew := hS.few
    clear hS
    go_wp2_with fail
    refine (sees_any HS.out.cur hle (by omega) ⟨#[32]⟩ (by decide)).mono ?_
    rintro e w1 ⟨c1, see, rfl, hsee, hc1s, hcur1, ho1⟩
    have hown1 := HS.out.own.cur ho1 hCw
    have HO1 := Lib.hid (HS.out.only.trans ho1)
    cases see with
    | false =>
      have HD := Lib.hid (HS.out.inv.done hsee)
      have HC1 := Lib.hid hcur1
      have HW1 := Lib.hid hown1
      clear hsee hcur1 ho1 hown1
      go_wp2_with fail
      go_ret
      exact ⟨c1, ns, b', _, rfl, HD.out, hc1s, HC1.out, HW1.out, HO1.out⟩
    | true =>
      have hone := sees_one hsee (by rw [← size_list]; exact hle)
      have HSEE := Lib.hid hsee
      have HC1 := Lib.hid hcur1
      have HW1 := Lib.hid hown1
      clear hsee hcur1 ho1 hown1
      go_wp2_with fail
      refine (number_any HC1.out hc1s (by omega)).mono ?_
      rintro e w2 ⟨c2, n, b2, rfl, hn, hc2s, hcur2, ho2⟩
      have hown2 := HW1.out.cur ho2 hCw
      have hx : Only NoneOf w2 (w2.alloc (.cells #[.int .i64 n] 3)) := (Only.refl _ _).alloc _
      have hsz : w.heap.size ≤ (w2.alloc (.cells #[.int .i64 n] 3)).heap.size := Nat.le_trans (HO1.out.trans ho2).size hx.size
      obtain ⟨A', cap', W', hrun, k1, k2⟩ := run_append_int (w2.alloc (.cells #[.int .i64 n] 3)) w.heap.size _ ns n (OwnOf.keep hown2 hx (fun _ _ e => e)) (by omega) hsz w2.heap.size (Blk.new w2 _ _) 38
      have hnl := hn.1
      have HNEW : Hid (ComS s a C b w (.slice A' (ns.length + 1) cap') (ns ++ [n]) c2 b2 W') := Lib.hid ⟨HS.out.inv.step HSEE.out hn, hc2s, by rw [List.length_append, List.length_singleton]; omega, (hcur2.only hx (fun e => e)).only k2 (fun e => by have := e.1; omega), by rw [List.length_append, List.length_singleton]; exact k1, ((HO1.out.trans ho2).trans' hx (fun _ _ e => e.elim)).trans' k2 (fun i hi e => by have := e.1; omega)⟩
      clear k1 k2 hown2 hx hcur2 ho2 hn hsz
      go_wp2_with fail
      go_roundw
      case rel => exact ⟨_, c2, b2, HNEW.out⟩
      case measure =>
        show s.size - (ns.length + 1) < s.size - ns.length
        omega
/-! ### Texts in hexadecimal -/
def byC (c : UInt8) : List Value := [.int .u8 (c.toNat : Int)]
theorem byC_len (c : UInt8) : (byC c).length = 1 := rfl
theorem byC_one (c : UInt8) : ∀ u ∈ byC c, u.oneCell' = true := fun u hu => by
  obtain rfl := List.mem_singleton.1 hu
  rfl
theorem byteI : RecI 5 1 1 := recI_of (by kernel_rfl) (by kernel_rfl) (by kernel_rfl)
/-- A byte is appended to bytes that the call made. -/
theorem run_append_byte (W : World) (base : Nat) (v : Value) (l : List UInt8) (c : UInt8) (h : OwnOf 5 byC 1 W base v l.length l) (hn : l.length ≤ 1000000000) (hb : base ≤ W.heap.size) (N : Nat) (hsrc : Blk W N 5 #[.int .u8 (c.toNat : Int)]) (ty : TypeId) :
    ∃ A cap W', (aph #[100, 100] ty #[v, .slice (some ⟨N, 0, none⟩) 1 1]).run Tryz.prog W = .ok (.slice A (l.length + 1) cap) W' ∧ OwnOf 5 byC 1 W' base (.slice A (l.length + 1) cap) (l.length + 1) (l ++ [c]) ∧ Only (TS base W [5]) W W' := by
  obtain ⟨A, cap, W', hrun, k1, k2, _⟩ := run_append_rec (T := 100) Tryz.underlying100 byteI (by omega) (by omega) byC_len W base v l c (byC_one c) h N hsrc hn hb ty
  exact ⟨A, cap, W', hrun, k1, grown_ts k2 h⟩
/-- Whether two digits stand at a place. -/
def pairAt (s : ByteArray) (k : Nat) : Bool := match s.data.toList[k]?, s.data.toList[k + 1]? with
  | some x, some y => decide (0 ≤ dgt x) && decide (0 ≤ dgt y)
  | _, _ => false
structure BytS (s : ByteArray) (a C : Nat) (b : Bool) (w : World) (v : Value) (t : List UInt8) (cur : Nat) (W : World) : Prop where
  inv : BytI s.data.toList a cur t
  le : cur ≤ s.size
  few : t.length ≤ cur
  cur : Cur W C s cur b
  own : OwnOf 5 byC 1 W w.heap.size v t.length t
  only : Only (· = C) w W
theorem BytS.drewN {s : ByteArray} {a C : Nat} {b : Bool} {w : World} {v : Value} {t : List UInt8} {cur : Nat} {W : World} (h : BytS s a C b w v t cur W) (n : Nat) : BytS s a C b w v t cur (W.drewN n) := ⟨h.inv, h.le, h.few, Blk.drewN h.cur n, h.own, h.only.drewN n⟩
set_option maxRecDepth 100000 in
set_option maxHeartbeats 4000000 in
theorem rbytes_any {w : World} {C : Nat} {s : ByteArray} {a : Nat} {b : Bool} (h : Cur w C s a b) (ha : a ≤ s.size) (hs : s.size ≤ 1000000000) :
    Calls Tryz.prog 51 #[curP C] w fun e w' => ∃ a' t, e = .returned (.string t) ∧ BytC s.data.toList a a' t.data.toList ∧ a' ≤ s.size ∧ Cur w' C s a' b ∧ Only (· = C) w w' := by
  have HST : Hid (BytS s a C b w (.slice none 0 0) [] a w) := Lib.hid ⟨BytI.new (by rw [← size_list]; exact ha), ha, Nat.zero_le _, h, OwnOf.nil _ _ _ _ _, Only.refl _ _⟩
  have hCw : C < w.heap.size := Blk.lt h
  clear h
  go_enter Tryz.func51, Tryz.ntmps51
  go_wp2_with fail
  go_loopw [3] (fun v wr => ∃ t cur, BytS s a C b w v t cur wr) (fun v _ => s.size - slLen v)
  case atStart => exact ⟨[], a, HST.out⟩
  case round =>
    obtain ⟨t, cur, hS⟩ := hrel
    obtain ⟨c0, c1, c2⟩ := hS.cur.cells
    have f1 : wr.frozen? ⟨C, 1, none⟩ = false := Blk.frozen hS.cur 1
    obtain ⟨A, cap, rfl, hc1, hc2⟩ := own_form' hS.own
    have hle := hS.le
    have hfew := hS.few
    have HS := Lib.hid hS
    have p0 : (0 : Int) ≤ (cur : Int) := by omega
    have p2 : (0 : Int) ≤ (cur : Int) + 1 := by omega
    have w1 : IntKind.i64.wrap ((cur : Int) + 1) = (cur : Int) + 1 := IntWalk.i64_in _ (by omega)
    obtain ⟨go, ego⟩ : ∃ g, g = pairAt s cur := ⟨_, rfl⟩
    have EG := Lib.hid ego
    clear hS ego
    go_upto_region 2 with (fail)
    go_cut [41] from 4 to 76 (fun c wx => c = .bool go ∧ ∃ n, wx = wr.drewN n)
    case first =>
      by_cases hlt : cur + 1 < s.size
      · obtain ⟨x, hx⟩ : ∃ x, s[cur] = x := ⟨_, rfl⟩
        obtain ⟨y, hy⟩ : ∃ y, s[cur + 1] = y := ⟨_, rfl⟩
        have gx := str_get s cur (by omega)
        have gy := str_get s (cur + 1) hlt
        rw [hx] at gx
        rw [hy] at gy
        have hg : go = (decide (0 ≤ dgt x) && decide (0 ≤ dgt y)) := by rw [EG.out]; unfold pairAt; rw [gx, gy]
        have DX := Lib.hid (fun W => rdigit_any x W)
        have DY := Lib.hid (fun W => rdigit_any y W)
        have p1 : (cur : Int) < (s.size : Int) := by omega
        have p3 : (cur : Int) + 1 < (s.size : Int) := by omega
        have d1 : decide ((cur : Int) + 1 < (s.size : Int)) = true := decide_eq_true p3
        obtain ⟨X, eX⟩ : ∃ X, X = dgt x := ⟨_, rfl⟩
        obtain ⟨Y, eY⟩ : ∃ Y, Y = dgt y := ⟨_, rfl⟩
        rw [← eX] at hg DX
        rw [← eY] at hg DY
        clear gx gy eX eY
        by_cases hX : 0 ≤ X
        · have d2 : decide (0 ≤ X) = true := decide_eq_true hX
          rw [d2, Bool.true_and] at hg
          by_cases hY : 0 ≤ Y
          · have d3 : decide (0 ≤ Y) = true := decide_eq_true hY
            rw [d3] at hg
            subst hg
            go_quiet (first | (go_at_call 79; with_reducible exact Calls.quiet_of_same (DX.out _)) | (go_at_call 79; with_reducible exact Calls.quiet_of_same (DY.out _)))
            go_wp2_with fail
            go_meet
            case rel => exact ⟨rfl, _, rfl⟩
          · have d3 : decide (0 ≤ Y) = false := decide_eq_false hY
            rw [d3] at hg
            subst hg
            go_quiet (first | (go_at_call 79; with_reducible exact Calls.quiet_of_same (DX.out _)) | (go_at_call 79; with_reducible exact Calls.quiet_of_same (DY.out _)))
            go_wp2_with fail
            go_meet
            case rel => exact ⟨rfl, _, rfl⟩
        · have d2 : decide (0 ≤ X) = false := decide_eq_false hX
          rw [d2, Bool.false_and] at hg
          subst hg
          go_quiet (first | (go_at_call 79; with_reducible exact Calls.quiet_of_same (DX.out _)) | (go_at_call 79; with_reducible exact Calls.quiet_of_same (DY.out _)))
          go_wp2_with fail
          go_meet
          case rel => exact ⟨rfl, _, rfl⟩
      · have d1 : decide ((cur : Int) + 1 < (s.size : Int)) = false := decide_eq_false (by omega)
        have hg : go = false := by
          rw [EG.out]
          unfold pairAt
          rw [List.getElem?_eq_none (i := cur + 1) (by rw [← size_list]; omega)]
          split
          · rename_i h1
            cases h1
          · rfl
        subst hg
        go_quiet (fail)
        go_wp2_with fail
        go_meet
        case rel => exact ⟨rfl, _, rfl⟩
    case rest =>
    obtain ⟨rfl, n1, rfl⟩ := hcut
    cases go with
    | true =>
      obtain ⟨x, y, gx, gy, dx, dy⟩ : ∃ x y, s.data.toList[cur]? = some x ∧ s.data.toList[cur + 1]? = some y ∧ 0 ≤ dgt x ∧ 0 ≤ dgt y := by
        have h1 := EG.out
        unfold pairAt at h1
        split at h1
        · rename_i x y h2 h3
          have h4 := h1.symm
          rw [Bool.and_eq_true] at h4
          exact ⟨x, y, h2, h3, of_decide_eq_true h4.1, of_decide_eq_true h4.2⟩
        · cases h1
      have hlt : cur + 1 < s.size := by
        have := (List.getElem?_eq_some_iff.1 gy).1
        rw [← size_list] at this
        exact this
      have hx : s[cur] = x := by
        have := str_get s cur (by omega)
        rw [gx] at this
        exact (Option.some.inj this).symm
      have hy : s[cur + 1] = y := by
        have := str_get s (cur + 1) hlt
        rw [gy] at this
        exact (Option.some.inj this).symm
      have p1 : (cur : Int) < (s.size : Int) := by omega
      have p3 : (cur : Int) + 1 < (s.size : Int) := by omega
      have hi := HS.out.inv.step gx gy dx dy
      have htw := twoD_nat dx dy
      have lx := dgt_lt x
      have ly := dgt_lt y
      obtain ⟨z, ez⟩ : ∃ z, z = twoD x y := ⟨_, rfl⟩
      rw [← ez] at hi htw
      have DX := Lib.hid (fun W => rdigit_any x W)
      have DY := Lib.hid (fun W => rdigit_any y W)
      obtain ⟨X, eX⟩ : ∃ X, X = dgt x := ⟨_, rfl⟩
      obtain ⟨Y, eY⟩ : ∃ Y, Y = dgt y := ⟨_, rfl⟩
      rw [← eX] at dx lx htw DX
      rw [← eY] at dy ly htw DY
      have m1 : IntKind.i64.wrap (16 * X) = 16 * X := IntWalk.i64_in _ (by omega)
      have m2 : IntKind.i64.wrap (16 * X + Y) = 16 * X + Y := IntWalk.i64_in _ (by omega)
      have hzn : 16 * X + Y = (z.toNat : Int) := by omega
      have m3 : IntKind.u8.wrap (16 * X + Y) = (z.toNat : Int) := by
        have := z.toNat_lt
        rw [hzn]
        simp only [IntKind.wrap, IntKind.bits, IntKind.signed]
        simp
        omega
      have w2 : IntKind.i64.wrap ((cur : Int) + 2) = (cur : Int) + 2 := IntWalk.i64_in _ (by omega)
      have HI := Lib.hid hi
      have htl : t.length ≤ 1000000000 := by omega
      clear gx gy hi htw ez eX eY lx ly dx dy hzn
      go_upto_region 3 with (fail)
      have hcz : Cur (wr.drewN n1) C s cur b := Blk.drewN HS.out.cur n1
      have hoz : Only (· = C) w (wr.drewN n1) := HS.out.only.drewN n1
      have L0 : ∀ W, Cur W C s cur b → W.cell? ⟨C, 0, none⟩ = some (.string s) := fun W h => h.cells.1
      have L1 : ∀ W, Cur W C s cur b → W.cell? ⟨C, 1, none⟩ = some (.int .i64 (cur : Int)) := fun W h => h.cells.2.1
      have HAL := Lib.hid (fun (W : World) (o : Obj) (h : Cur W C s cur b) => (h.only ((Only.refl NoneOf W).alloc o) (fun e => e) : Cur (W.alloc o) C s cur b))
      have hx9 : Only NoneOf (wr.drewN (n1 + 1)) ((wr.drewN (n1 + 1)).alloc (.cells #[.int .u8 (z.toNat : Int)] 5)) := (Only.refl _ _).alloc _
      obtain ⟨A', cap', W', hrun, k1, k2⟩ := run_append_byte ((wr.drewN (n1 + 1)).alloc (.cells #[.int .u8 (z.toNat : Int)] 5)) w.heap.size _ t z (OwnOf.keep (HS.out.drewN (n1 + 1)).own hx9 (fun _ _ e => e)) htl (Nat.le_trans (HS.out.drewN (n1 + 1)).only.size hx9.size) wr.heap.size (Blk.new (wr.drewN (n1 + 1)) _ _) 100
      have hcw : Cur W' C s cur b := ((HS.out.drewN (n1 + 1)).cur.only hx9 (fun e => e)).only k2 (fun e => by have := e.1; omega)
      have how : Only (· = C) w W' := ((HS.out.drewN (n1 + 1)).only.trans' hx9 (fun _ _ e => e.elim)).trans' k2 (fun i hi e => by have := e.1; omega)
      obtain ⟨e0, e1, e2⟩ := hcw.cells
      have f9 : W'.frozen? ⟨C, 1, none⟩ = false := Blk.frozen hcw 1
      have HNEW : Hid (BytS s a C b w (.slice A' (t.length + 1) cap') (t ++ [z]) (cur + 2) (W'.setCell ⟨C, 1, none⟩ (.int .i64 ((cur : Int) + 2)))) := Lib.hid ⟨HI.out, by omega, by rw [List.length_append, List.length_singleton]; omega, Cur.at_ (a' := cur + 2) hcw, by
        rw [List.length_append, List.length_singleton]
        exact OwnOf.cur k1 ((Only.refl (· = C) W').setCell (p := ⟨C, 1, none⟩) (.inl rfl) _) hCw, cur_set how 1 _⟩
      clear k1 k2 how hx9 hoz
      go_region_held3 (fun W => Cur W C s cur b) (first | assumption | exact HAL.out _ _ (by assumption)) (first
        | (go_at_call 79; with_reducible refine (DX.out _).mono ?_; rintro e w4 ⟨rfl, rfl⟩)
        | (go_at_call 79; with_reducible refine (DY.out _).mono ?_; rintro e w4 ⟨rfl, rfl⟩))
      all_goals
        go_wp2_with fail
        go_roundw
        case rel => exact ⟨_, _, HNEW.out⟩
        case measure =>
          show s.size - (t.length + 1) < s.size - t.length
          omega
    | false =>
      have hD := HS.out.inv.done (fun x y gx gy hxy => by
        have h1 := EG.out
        unfold pairAt at h1
        rw [gx, gy] at h1
        have h2 : false = (decide (0 ≤ dgt x) && decide (0 ≤ dgt y)) := h1
        rw [decide_eq_true hxy.1, decide_eq_true hxy.2] at h2
        cases h2)
      obtain ⟨u, eu⟩ : ∃ u : ByteArray, u = ⟨t.toArray⟩ := ⟨_, rfl⟩
      have hut : u.data.toList = t := by rw [eu]
      have hcv : (convert 100 9 (.slice A t.length cap)).run Tryz.prog (wr.drewN n1) = .ok (.string u) (wr.drewN n1) := by
        rw [eu]
        have ho := HS.out.own
        rcases ho.2 with ⟨h0, h9⟩ | ⟨g, cap', cells, h0, hbg, hh, _⟩
        · have ht0 : t = [] := List.eq_nil_of_length_eq_zero h9
          subst ht0
          cases h0
          rfl
        · cases h0
          refine run_back (fun j c hc => ?_) rfl
          have t1 := flat_get byC_len t j 0 (by omega) c hc
          have t2 := World.ownsRow.cells ho rfl (j * 1 + 0) (.int .u8 (c.toNat : Int)) (by rw [t1]; rfl)
          rw [Addr.add_mid] at t2
          have t3 : wr.cell? ⟨g, 0 + j, none⟩ = some (.int .u8 (c.toNat : Int)) := by simpa using t2
          exact t3
      rw [← hut] at hD
      have HD := Lib.hid hD
      clear hD hut eu
      go_wp2_with fail
      go_ret
      exact ⟨cur, u, rfl, HD.out, hle, Blk.drewN HS.out.cur _, HS.out.only.drewN _⟩
end Go.Proofs.YtpdlbmieciabmaaGreatDoor
