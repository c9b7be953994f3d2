/- What is proved here: a price text is read, by the reference's code. Conditions: the text is short. -/
import Derived.Test.YtpdlbmieciabmaaDoorBrW
import Derived.Test.YtpdlbmieciabmaaDoorBrY
import Derived.Test.YtpdlbmieciabmaaDoorBrN
import Derived.Deep.RegionLaw
import Derived.OwnWalk
namespace Go.Proofs.YtpdlbmieciabmaaDoor
open Go.RowKit Go.Shelf
attribute [local go_sem ↓ high] aph_eq
theorem RbOwn.cur {w w' : World} {base n C : Nat} {v : Value} {rs : List Rb} {s : ByteArray} {a : Nat} {b : Bool} (h : RbOwn w base v n rs) (hc : Cur w C s a b) (ho : Only (· = C) w w') : RbOwn w' base v n rs := by
  obtain ⟨L, h1, h2, h3⟩ := h
  have key : ∀ {t : TypeId} (_ : t ≠ tCur) (g : Nat) (cur : Array Value), Blk w g t cur → ¬ g = C := fun ht g cur hb e => by
    subst e
    exact Blk.ne_ hb hc ht rfl
  exact ⟨L, h1, OwnOf.keep h2 ho (fun b hb e => by
    obtain ⟨cur, hk⟩ := own_there h2 hb
    exact key (by decide) b cur hk e), fun i c e hc' he => ⟨(h3 i c e hc' he).1, (h3 i c e hc' he).2.keep ho (fun g cur hb _ => key (by decide) g cur hb)⟩⟩
abbrev tReb : TypeId := 53
abbrev tEn : TypeId := 47
/-- What the reader keeps. -/
structure RpS (s : ByteArray) (w : World) (C : Nat) (v u : Value) (es : List En) (rs : List Rb) (a : Nat) (bad : Bool) (W : World) : Prop where
  st : PSt s.data.toList a es rs bad
  le : a ≤ s.size
  few : es.length + rs.length ≤ a + bad.toNat
  own : EnOwn W w.heap.size v es.length es
  reb : RbOwn W w.heap.size u rs.length rs
  cur : Cur W C s a bad
  only : Only NoneOf w W
/-- What is kept behind a step of the cursor. -/
structure RpM (s : ByteArray) (w : World) (C : Nat) (v u : Value) (es : List En) (rs : List Rb) (a : Nat) (bad : Bool) (W : World) : Prop where
  le : a ≤ s.size
  own : EnOwn W w.heap.size v es.length es
  reb : RbOwn W w.heap.size u rs.length rs
  cur : Cur W C s a bad
  only : Only NoneOf w W
theorem RpM.none_ {s : ByteArray} {w W W' : World} {C : Nat} {v u : Value} {es : List En} {rs : List Rb} {a : Nat} {bad : Bool} (h : RpM s w C v u es rs a bad W) (ho : Only NoneOf W W') : RpM s w C v u es rs a bad W' := ⟨h.le, h.own.none_ ho, h.reb.none_ ho, h.cur.only ho (fun e => e), h.only.trans ho⟩
theorem RpM.step {s : ByteArray} {w W W' : World} {C : Nat} {v u : Value} {es : List En} {rs : List Rb} {a a' : Nat} {bad bad' : Bool} (h : RpM s w C v u es rs a bad W) (hwC : w.heap.size ≤ C) (hl : a' ≤ s.size) (hc : Cur W' C s a' bad') (ho : Only (· = C) W W') : RpM s w C v u es rs a' bad' W' := ⟨hl, h.own.cur h.cur ho, h.reb.cur h.cur ho, hc, only_new h.only ho hwC⟩
/-- A block of the call's own is written; it is none of those. -/
theorem RpM.set {s : ByteArray} {w W : World} {C R j : Nat} {v u x : Value} {es : List En} {rs : List Rb} {a : Nat} {bad : Bool} {t : TypeId} {cur : Array Value} (h : RpM s w C v u es rs a bad W) (hR : Blk W R t cur) (hwR : w.heap.size ≤ R) (ht : t ≠ tCur) (h1 : ∀ b, v.ownBlock = some b → b ≠ R) (h2 : ∀ b, u.ownBlock = some b → b ≠ R) (h3 : t ≠ 50) (h4 : t ≠ 3) (_h5 : True) : RpM s w C v u es rs a bad (W.setCell ⟨R, j, none⟩ x) := by
  have ho : Only (fun i => i = R) W (W.setCell ⟨R, j, none⟩ x) := (Only.refl (fun i => i = R) W).setCell (p := ⟨R, j, none⟩) (.inl rfl) x
  refine ⟨h.le, ?_, ?_, h.cur.only ho (fun e => Blk.ne_ h.cur hR (Ne.symm ht) e), h.only.trans' ho (fun i hi e => by have e' : i = R := e; omega)⟩
  · obtain ⟨L, k1, k2, k3, k4⟩ := h.own
    exact ⟨L, k1, OwnOf.keep k2 ho (fun b hb e => h1 b hb e), fun i c e hc he => ⟨(k3 i c e hc he).1, (k3 i c e hc he).2.1, OwnOf.keep (k3 i c e hc he).2.2 ho (fun b hb e => by
      obtain ⟨cur', hk⟩ := own_there (k3 i c _ hc he).2.2 hb
      exact Blk.ne_ hk hR (Ne.symm h3) e)⟩, k4⟩
  · obtain ⟨L, k1, k2, k3⟩ := h.reb
    exact ⟨L, k1, OwnOf.keep k2 ho (fun b hb e => h2 b hb e), fun i c e hc he => ⟨(k3 i c e hc he).1, (k3 i c e hc he).2.keep ho (fun g cur' hb _ e => Blk.ne_ hb hR (Ne.symm h4) e)⟩⟩
theorem EnOwn.lt_ {w : World} {base n : Nat} {v : Value} {es : List En} (h : EnOwn w base v n es) : ∀ b, v.ownBlock = some b → b < w.heap.size := fun b hb => by
  obtain ⟨L, _, h2, _⟩ := h
  exact (own_ge h2 hb).2
theorem RbOwn.lt_ {w : World} {base n : Nat} {v : Value} {rs : List Rb} (h : RbOwn w base v n rs) : ∀ b, v.ownBlock = some b → b < w.heap.size := fun b hb => by
  obtain ⟨L, _, h2, _⟩ := h
  exact (own_ge h2 hb).2
theorem sees_len {s x : List UInt8} {a a' : Nat} {b : Bool} (h : SeesC s x a a' b true) (ha : a ≤ s.length) : a' = a + x.length := by
  have h1 := (h.2.2.1 rfl).2
  have h2 := congrArg List.length h1
  have h3 := h.1
  have h4 := h.2.1
  rw [List.length_append, List.length_drop, List.length_drop] at h2
  omega
theorem rqK_lt {s : ByteArray} {a a' : Nat} {b : Bool} (ha : a < s.size) (h : b = false → a < a') : rqK s a' b < rqK s a false := by
  unfold rqK
  cases b with
  | true => simp; omega
  | false => have := h rfl; simp; omega
theorem RpM.full {s : ByteArray} {w W : World} {C : Nat} {v u : Value} {es : List En} {rs : List Rb} {a : Nat} {bad : Bool} (h : RpM s w C v u es rs a bad W) (hs : PSt s.data.toList a es rs bad) (hf : es.length + rs.length ≤ a + bad.toNat) : RpS s w C v u es rs a bad W := ⟨hs, h.le, hf, h.own, h.reb, h.cur, h.only⟩
theorem Blk.curS {w w' : World} {C R : Nat} {t : TypeId} {cs : Array Value} (h : Blk w R t cs) (ho : Only (· = C) w w') (hne : R ≠ C) : Blk w' R t cs := h.only ho (fun e => hne e)
/-- Rebates that lay there before a mark, behind which alone blocks have turned. -/
theorem RbOwn.low {w w' : World} {base n C : Nat} {v : Value} {rs : List Rb} {s : ByteArray} {a : Nat} {b : Bool} (h : RbOwn w base v n rs) (hc : Cur w C s a b) (ho : Only (fun i => i = C ∨ w.heap.size ≤ i) w w') : RbOwn w' base v n rs := by
  obtain ⟨L, h1, h2, h3⟩ := h
  have key : ∀ {t : TypeId} (_ : t ≠ tCur) (g : Nat) (cur : Array Value), Blk w g t cur → ¬ (g = C ∨ w.heap.size ≤ g) := fun ht g cur hb e => by
    rcases e with e | e
    · subst e
      exact Blk.ne_ hb hc ht rfl
    · have := Blk.lt hb
      omega
  exact ⟨L, h1, OwnOf.keep h2 ho (fun b hb e => by
    obtain ⟨cur, hk⟩ := own_there h2 hb
    exact key (by decide) b cur hk e), fun i c e hc' he => ⟨(h3 i c e hc' he).1, (h3 i c e hc' he).2.keep ho (fun g cur hb _ => key (by decide) g cur hb)⟩⟩
/-- What passing the lots of a rebate keeps. -/
structure LtS (s : ByteArray) (w w4 : World) (C R : Nat) (v u : Value) (es : List En) (rs : List Rb) (n : Int) (a3 : Nat) (b3 : Bool) (lv : Value) (ns : List Int) (cur : Nat) (b : Bool) (W : World) : Prop where
  inv : CommI s.data.toList a3 cur ns b3 b
  few : ns.length ≤ cur
  m : RpM s w C v u es rs cur b W
  box : Blk W R tReb #[lv, .int .i64 n]
  own : OwnOf 3 inC 1 W (R + 1) lv ns.length ns
  low : Only (fun i => i = C ∨ R ≤ i) w4 W
theorem LtS.see {s : ByteArray} {w w4 W W' : World} {C R : Nat} {v u : Value} {es : List En} {rs : List Rb} {n : Int} {a3 : Nat} {b3 : Bool} {lv : Value} {ns : List Int} {cur : Nat} {b : Bool} (h : LtS s w w4 C R v u es rs n a3 b3 lv ns cur b W) (hwC : w.heap.size ≤ C) (hCR : C < R) {c1 : Nat} {b1 : Bool} (hl : c1 ≤ s.size) (hc : Cur W' C s c1 b1) (ho : Only (· = C) W W') : RpM s w C v u es rs c1 b1 W' ∧ Blk W' R tReb #[lv, .int .i64 n] ∧ OwnOf 3 inC 1 W' (R + 1) lv ns.length ns ∧ Only (fun i => i = C ∨ R ≤ i) w4 W' :=
  ⟨h.m.step hwC hl hc ho, h.box.curS ho (by omega), OwnOf.cur h.own ho (by omega), h.low.trans' ho (fun i _ e => .inl e)⟩
/-- A number more. -/
theorem lots_step {s : ByteArray} {w w4 W' : World} {C R : Nat} {v u : Value} {es : List En} {rs : List Rb} {n : Int} {a3 : Nat} {b3 : Bool} {lv : Value} {ns : List Int} {cur c1 c2 : Nat} {b b2 : Bool} {x : Int} (hwC : w.heap.size ≤ C) (hCR : C < R) (hwR : w.heap.size ≤ R) (hR : R = w4.heap.size) (hrb : RbOwn w4 w.heap.size u rs.length rs) {c4 : Nat} {b4 : Bool} (hc4 : Cur w4 C s c4 b4) (hvR : ∀ b, v.ownBlock = some b → b ≠ R) (huR : ∀ b, u.ownBlock = some b → b ≠ R) (hs : s.size ≤ 4000000) (hinv : CommI s.data.toList a3 cur ns b3 b) (hfew : ns.length ≤ cur) (hle : cur ≤ s.size) (hsee : SeesC s.data.toList [32] cur c1 b true) (hn : NumC s.data.toList c1 c2 x b b2) (k1 : RpM s w C v u es rs c2 b2 W') (k2 : Blk W' R tReb #[lv, .int .i64 n]) (k3 : OwnOf 3 inC 1 W' (R + 1) lv ns.length ns) (k4 : Only (fun i => i = C ∨ R ≤ i) w4 W') (ty : TypeId) :
    ∃ A cap W2, (aph #[51, 51] ty #[lv, .slice (some ⟨W'.heap.size, 0, none⟩) 1 1]).run Tryd.prog (W'.alloc (.cells #[.int .i64 x] 3)) = .ok (.slice A (ns.length + 1) cap) W2 ∧ W'.cell? ⟨R, 0, none⟩ = some lv ∧ W2.cell? ⟨R, 0, none⟩ = some lv ∧ W2.frozen? ⟨R, 0, none⟩ = false ∧ LtS s w w4 C R v u es rs n a3 b3 (.slice A (ns.length + 1) cap) (ns ++ [x]) c2 b2 (W2.setCell ⟨R, 0, none⟩ (.slice A (ns.length + 1) cap)) := by
  have hx : Only NoneOf W' (W'.alloc (.cells #[.int .i64 x] 3)) := (Only.refl _ _).alloc _
  have hRW := Blk.lt k2
  have hone := sees_one hsee (by rw [← size_list]; exact hle)
  have hn1 := hn.1
  obtain ⟨A, cap, W2, hrun, j1, j2⟩ := run_append_int (W'.alloc (.cells #[.int .i64 x] 3)) (R + 1) lv ns x (OwnOf.keep k3 hx (fun _ _ e => e)) (by omega) (Nat.le_trans hRW hx.size) W'.heap.size (Blk.new W' _ _) ty
  have m1 := k1.none_ hx
  have hb2 : Blk W2 R tReb #[lv, .int .i64 n] := Blk.ts (k2.only hx (fun e => e)) j2 (by decide)
  have hlow : Only (fun i => i = C ∨ R ≤ i) w4 W2 := (k4.trans' hx (fun _ _ e => e.elim)).trans' (ts_base j2) (fun i _ e => .inr (by omega))
  have m2 : RpM s w C v u es rs c2 b2 W2 := ⟨k1.le, m1.own.ts j2 (by decide) (by decide), hrb.low hc4 (hlow.mono (fun i _ e => e.imp id (fun h => by omega))), Blk.ts m1.cur j2 (by decide), only_base m1.only ((ts_base j2).mono (fun i _ e => (by omega : w.heap.size ≤ i))) (Nat.le_refl _)⟩
  have hset : Only (fun i => i = R) W2 (W2.setCell ⟨R, 0, none⟩ (.slice A (ns.length + 1) cap)) := (Only.refl (fun i => i = R) W2).setCell (p := ⟨R, 0, none⟩) (.inl rfl) _
  refine ⟨A, cap, W2, hrun, k2.cell 0, hb2.cell 0, hb2.frozen 0, hinv.step hsee hn, by rw [List.length_append, List.length_singleton]; omega, m2.set hb2 hwR (by decide) hvR huR (by decide) (by decide) trivial, Blk.set_ hb2 0 _, ?_, hlow.trans' hset (fun i _ e => .inr (by have e' : i = R := e; omega))⟩
  rw [List.length_append, List.length_singleton]
  exact OwnOf.keep j1 hset (fun b hb e => by
    have := (own_ge j1 hb).1
    have e' : b = R := e
    omega)
set_option maxRecDepth 100000 in
set_option maxHeartbeats 4000000 in
theorem rreadp_any (s : ByteArray) (hs : s.size ≤ 4000000) (w : World) : Calls Tryd.prog 17 #[.string s] w (PRdE s w) := by
  obtain ⟨C, eC⟩ : ∃ C, C = w.heap.size := ⟨_, rfl⟩
  have hst : RpS s w C (.slice none 0 0) (.slice none 0 0) [] [] 0 false (w.alloc (.cells #[.string s, .int .i64 0, .bool false] tCur)) := ⟨PSt.new _, Nat.zero_le _, Nat.zero_le _, EnOwn.nil _ _, RbOwn.nil _ _, by rw [eC]; exact Blk.new w _ _, (Only.refl _ _).alloc _⟩
  have HST := Lib.hid hst
  have HC := Lib.hid eC
  have hwC : w.heap.size ≤ C := by omega
  clear hst eC
  go_enter Tryd.func17, Tryd.ntmps17
  go_wp2_with fail
  rw [← HC.out]
  go_loopg [6, 7] (rqK s 0 false) (fun k v u wr => ∃ es rs a bad, k = rqK s a bad ∧ RpS s w C v u es rs a bad wr)
  case atStart => exact ⟨[], [], 0, false, rfl, HST.out⟩
  case round =>
    obtain ⟨es, rs, a, bad, rfl, hS⟩ := hrel
    obtain ⟨A, cap, rfl, hc1, hc2⟩ := hS.own.form
    obtain ⟨B, bap, rfl, hb1, hb2⟩ := hS.reb.form
    have hle := hS.le
    have hfew := hS.few
    have HST := Lib.hid hS.st
    have HM0 : Hid (RpM s w C (.slice A es.length cap) (.slice B rs.length bap) es rs a bad wr) := Lib.hid ⟨hS.le, hS.own, hS.reb, hS.cur, hS.only⟩
    clear hS
    go_wp2_with fail
    refine (more_any HM0.out.cur (by omega)).mono ?_
    rintro e w1 ⟨rfl, ho1⟩
    have HM1 := Lib.hid (HM0.out.none_ ho1)
    clear ho1
    cases hm : (!bad && decide (a < s.size)) with
    | false =>
      obtain ⟨c0, c1, c2⟩ := HM1.out.cur.cells
      have HM := Lib.hid hm
      clear hm
      cases bad with
      | true =>
        have HF := Lib.hid (HST.out.2.1 rfl)
        go_wp2_with fail
        go_ret3
        exact PRdE.bad HF.out HM1.out.only
      | false =>
        have hge : s.data.toList.length ≤ a := by
          have h1 := HM.out
          rw [Bool.not_false, Bool.true_and] at h1
          have h2 := of_decide_eq_false h1
          rw [← size_list]
          omega
        have HF := Lib.hid (HST.out.full hge)
        go_wp2_with fail
        go_ret3
        exact PRdE.ok HF.out HM1.out.own HM1.out.reb HM1.out.only
    | true =>
      rw [Bool.and_eq_true] at hm
      obtain ⟨hb, ha⟩ := hm
      have hbad : bad = false := by simpa using hb
      subst hbad
      have halt := of_decide_eq_true ha
      have HAL := Lib.hid (show a < s.data.toList.length by rw [← size_list]; exact halt)
      rw [Bool.toNat_false] at hfew
      clear hb ha
      go_wp2_with fail
      refine (sees_any HM1.out.cur hle (by omega) ⟨#[108, 111, 116, 32]⟩ (by decide)).mono ?_
      rintro e w2 ⟨a1, see, rfl, hsee, hl1, hcur2, ho2⟩
      have HM2 := Lib.hid (HM1.out.step hwC hl1 hcur2 ho2)
      have HSEE := Lib.hid hsee
      clear hsee hcur2 ho2
      cases see with
      | true =>
        go_wp2_with fail
        refine (number_any HM2.out.cur hl1 (by omega)).mono ?_
        rintro e w3 ⟨a2, n, b2, rfl, hn2, hl2, hcur3, ho3⟩
        have HM3 := Lib.hid (HM2.out.step hwC hl2 hcur3 ho3)
        have HN2 := Lib.hid hn2
        obtain ⟨R, eR⟩ : ∃ R, R = w3.heap.size := ⟨_, rfl⟩
        have hR3 : Blk (w3.alloc (.cells #[.int .i64 0, .int .i64 n, .int .i64 0, .int .i64 0, .slice none 0 0] tEn)) R tEn #[.int .i64 0, .int .i64 n, .int .i64 0, .int .i64 0, .slice none 0 0] := by rw [eR]; exact Blk.new w3 _ _
        have hRC : R ≠ C := by
          have := Blk.lt HM3.out.cur
          omega
        have hwR : w.heap.size ≤ R := by rw [eR]; exact HM3.out.only.size
        have hvR : ∀ b, (Value.slice A es.length cap).ownBlock = some b → b ≠ R := fun b hb => by have := HM3.out.own.lt_ b hb; omega
        have huR : ∀ b, (Value.slice B rs.length bap).ownBlock = some b → b ≠ R := fun b hb => by have := HM3.out.reb.lt_ b hb; omega
        have HR3 := Lib.hid hR3
        have HVR := Lib.hid hvR
        have HUR := Lib.hid huR
        have HM4 := Lib.hid (HM3.out.none_ ((Only.refl NoneOf w3).alloc (.cells #[.int .i64 0, .int .i64 n, .int .i64 0, .int .i64 0, .slice none 0 0] tEn)))
        have ER := Lib.hid eR
        clear hn2 hcur3 ho3 hR3 hvR huR eR
        go_wp2_with fail
        rw [← ER.out]
        refine (need_any HM4.out.cur hl2 (by omega) ⟨#[32]⟩ (by decide)).mono ?_
        rintro e w5 ⟨rfl, a3, b3, hn3, hl3, hcur5, ho5⟩
        have HM5 := Lib.hid (HM4.out.step hwC hl3 hcur5 ho5)
        have HR5 := Lib.hid (HR3.out.curS ho5 hRC)
        have HN3 := Lib.hid hn3
        clear hn3 hcur5 ho5
        go_wp2_with fail
        refine (number_any HM5.out.cur hl3 (by omega)).mono ?_
        rintro e w6 ⟨a4, m, b4, rfl, hn4, hl4, hcur6, ho6⟩
        have HM6 := Lib.hid (HM5.out.step hwC hl4 hcur6 ho6)
        have hR6 := HR5.out.curS ho6 hRC
        have HN4 := Lib.hid hn4
        have d3 : w6.cell? ⟨R, 3, none⟩ = some (.int .i64 0) := hR6.cell 3
        have f3 : w6.frozen? ⟨R, 3, none⟩ = false := hR6.frozen 3
        have HM7 := Lib.hid (HM6.out.set (j := 3) (x := .int .i64 m) hR6 hwR (by decide) HVR.out HUR.out (by decide) (by decide) trivial)
        have HR7 : Hid (Blk (w6.setCell ⟨R, 3, none⟩ (.int .i64 m)) R tEn #[.int .i64 0, .int .i64 n, .int .i64 0, .int .i64 m, .slice none 0 0]) := Lib.hid (Blk.set_ hR6 3 _)
        clear hn4 hcur6 ho6 hR6
        go_wp2_with fail
        refine (need_any HM7.out.cur hl4 (by omega) ⟨#[10]⟩ (by decide)).mono ?_
        rintro e w8 ⟨rfl, a5, b5, hn5, hl5, hcur8, ho8⟩
        have HM8 := Lib.hid (HM7.out.step hwC hl5 hcur8 ho8)
        have hR8 := HR7.out.curS ho8 hRC
        have hcase := lot_c HSEE.out HN2.out HN3.out HN4.out hn5
        obtain ⟨_, lb, hnin, hmin, hcs⟩ := hcase
        have hst' := HST.out.lot_any HAL.out HSEE.out lb hnin hmin hcs
        have hsl := sees_len HSEE.out (by rw [← size_list]; exact hle)
        have hx4 : (⟨#[108, 111, 116, 32]⟩ : ByteArray).data.toList.length = 4 := rfl
        rw [hx4] at hsl
        have g2 := HN2.out.1
        have g3 := HN3.out.1
        have g4 := HN4.out.1
        have g5 := hn5.1
        have ha5 : a + 4 ≤ a5 := by omega
        have HST' := Lib.hid hst'
        have e0 : w8.cell? ⟨R, 0, none⟩ = some (.int .i64 0) := hR8.cell 0
        have e1 : w8.cell? ⟨R, 1, none⟩ = some (.int .i64 n) := hR8.cell 1
        have e2 : w8.cell? ⟨R, 2, none⟩ = some (.int .i64 0) := hR8.cell 2
        have e3 : w8.cell? ⟨R, 3, none⟩ = some (.int .i64 m) := hR8.cell 3
        have e4 : w8.cell? ⟨R, 4, none⟩ = some (.slice none 0 0) := hR8.cell 4
        have hx : Only NoneOf w8 (w8.alloc (.cells #[.int .i64 0, .int .i64 n, .int .i64 0, .int .i64 m, .slice none 0 0] tEn)) := (Only.refl _ _).alloc _
        have hM9 := HM8.out.none_ hx
        obtain ⟨A5, cap5, W', hrun, k1, k2⟩ := run_append_lot (w8.alloc (.cells #[.int .i64 0, .int .i64 n, .int .i64 0, .int .i64 m, .slice none 0 0] tEn)) w.heap.size (.slice A es.length cap) es ⟨n, m, .slice none 0 0⟩ ⟨n, m, []⟩ hM9.own ⟨rfl, rfl, OwnOf.nil _ _ _ _ _⟩ (fun _ _ _ _ _ _ e => by cases e) w8.heap.size (Blk.new w8 _ _) (by omega) (Nat.le_trans HM8.out.only.size hx.size) 29
        have HM10 : Hid (RpM s w C (.slice A5 (es.length + 1) cap5) (.slice B rs.length bap) (es ++ [⟨n, m, []⟩]) rs a5 b5 W') := Lib.hid ⟨hl5, by rw [List.length_append, List.length_singleton]; exact k1, hM9.reb.ts k2 (by decide) (by decide), Blk.ts hM9.cur k2 (by decide), only_base hM9.only (ts_base k2) (Nat.le_refl _)⟩
        have hf1 : (es ++ [(⟨n, m, []⟩ : En)]).length + rs.length ≤ a5 := by rw [List.length_append, List.length_singleton]; omega
        clear k1 k2 hx hM9 hR8 hn5 hcur8 ho8 hcs hst' hnin hmin lb HN2 HN3 HN4 HM3 HM4 HM5 HM6 HM7 HR3 HR5 HR7 hsl
        have f2 : W'.frozen? ⟨C, 2, none⟩ = false := Blk.frozen HM10.out.cur 2
        obtain ⟨q0, q1, q2⟩ := HM10.out.cur.cells
        by_cases hr0 : rs = []
        · subst hr0
          have hst2 : PSt s.data.toList a5 (es ++ [⟨n, m, []⟩]) [] b5 := by have := HST'.out; simpa using this
          have HNEW := Lib.hid (HM10.out.full hst2 (Nat.le_trans hf1 (Nat.le_add_right _ _)))
          clear hst2
          go_wp2_with fail
          go_roundg (rqK s a5 b5)
          case rel => exact ⟨_, _, a5, b5, rfl, HNEW.out⟩
          case measure => exact rqK_lt halt (fun _ => by omega)
        · have hrl : 0 < rs.length := List.length_pos_iff.2 hr0
          have dl : (0 : Int) < (rs.length : Int) := by omega
          have hst2 : PSt s.data.toList a5 (es ++ [⟨n, m, []⟩]) rs true := by
            have h1 := HST'.out
            have h2 : rs.isEmpty = false := by
              cases rs with
              | nil => exact absurd rfl hr0
              | cons x l => rfl
            rw [h2] at h1
            simpa using h1
          have ho2 : Only (· = C) W' (W'.setCell ⟨C, 2, none⟩ (.bool true)) := cur_set (Only.refl _ _) 2 _
          have HNEW := Lib.hid ((HM10.out.step hwC hl5 (HM10.out.cur.bad true) ho2).full hst2 (Nat.le_trans hf1 (Nat.le_add_right _ _)))
          clear hst2 ho2 hr0
          go_wp2_with fail
          go_roundg (rqK s a5 true)
          case rel => exact ⟨_, _, a5, true, rfl, HNEW.out⟩
          case measure => exact rqK_lt halt (fun _ => by omega)
      | false =>
        have ha1 : a1 = a := (HSEE.out.2.2.2 rfl).1
        subst ha1
        go_wp2_with fail
        refine (need_any HM2.out.cur hl1 (by omega) ⟨#[114, 101, 98, 97, 116, 101, 32]⟩ (by decide)).mono ?_
        rintro e w3 ⟨rfl, a2, b2, hn2, hl2, hcur3, ho3⟩
        have HM3 := Lib.hid (HM2.out.step hwC hl2 hcur3 ho3)
        have HN2 := Lib.hid hn2
        clear hn2 hcur3 ho3
        go_wp2_with fail
        refine (number_any HM3.out.cur hl2 (by omega)).mono ?_
        rintro e w4 ⟨a3, n, b3, rfl, hn3, hl3, hcur4, ho4⟩
        have HM4 := Lib.hid (HM3.out.step hwC hl3 hcur4 ho4)
        have HN3 := Lib.hid hn3
        obtain ⟨R, eR⟩ : ∃ R, R = w4.heap.size := ⟨_, rfl⟩
        have hR4 : Blk (w4.alloc (.cells #[.slice none 0 0, .int .i64 n] tReb)) R tReb #[.slice none 0 0, .int .i64 n] := by rw [eR]; exact Blk.new w4 _ _
        have hRC : R ≠ C := by
          have := Blk.lt HM4.out.cur
          omega
        have hwR : w.heap.size ≤ R := by rw [eR]; exact HM4.out.only.size
        have hvR : ∀ b, (Value.slice A es.length cap).ownBlock = some b → b ≠ R := fun b hb => by have := HM4.out.own.lt_ b hb; omega
        have huR : ∀ b, (Value.slice B rs.length bap).ownBlock = some b → b ≠ R := fun b hb => by have := HM4.out.reb.lt_ b hb; omega
        have HR4 := Lib.hid hR4
        have HVR := Lib.hid hvR
        have HUR := Lib.hid huR
        have HM5 := Lib.hid (HM4.out.none_ ((Only.refl NoneOf w4).alloc (.cells #[.slice none 0 0, .int .i64 n] tReb)))
        have ER := Lib.hid eR
        clear hn3 hcur4 ho4 hR4 hvR huR eR
        go_wp2_with fail
        rw [← ER.out]
        have HLT0 : Hid (LtS s w w4 C R (.slice A es.length cap) (.slice B rs.length bap) es rs n a3 b3 (.slice none 0 0) [] a3 b3 (w4.alloc (.cells #[.slice none 0 0, .int .i64 n] tReb))) := Lib.hid ⟨CommI.new (by rw [← size_list]; exact hl3) b3, Nat.zero_le _, HM5.out, HR4.out, OwnOf.nil _ _ _ _ _, (Only.refl _ _).alloc _⟩
        have hCR : C < R := by
          have := Blk.lt HM4.out.cur
          have := ER.out
          omega
        go_loopg [] (s.size - a3) (fun k wr => ∃ lv ns cur b, k = s.size - cur ∧ LtS s w w4 C R (.slice A es.length cap) (.slice B rs.length bap) es rs n a3 b3 lv ns cur b wr)
        case atStart => exact ⟨_, [], a3, b3, rfl, HLT0.out⟩
        case round =>
          obtain ⟨lv, ns, cur, b, rfl, hL⟩ := hrel
          have HL := Lib.hid hL
          have hcl := hL.m.le
          clear hL
          go_wp2_with fail
          refine (sees_any HL.out.m.cur hcl (by omega) ⟨#[32]⟩ (by decide)).mono ?_
          rintro e w6 ⟨c1, see, rfl, hsee, hcl1, hcur6, ho6⟩
          have H6 := Lib.hid (HL.out.see hwC hCR hcl1 hcur6 ho6)
          have HSE := Lib.hid hsee
          clear hsee hcur6 ho6
          cases see with
          | true =>
            have hone := sees_one HSE.out (by rw [← size_list]; exact hcl)
            obtain ⟨LA, lcap, rfl, hlc1, hlc2⟩ := own_form' H6.out.2.2.1
            have r0 : w6.cell? ⟨R, 0, none⟩ = some (.slice LA ns.length lcap) := H6.out.2.1.cell 0
            have hrb4 := HM4.out.reb
            have hcu4 := HM4.out.cur
            have HRB4 := Lib.hid hrb4
            have HCU4 := Lib.hid hcu4
            have HRC := Lib.hid hRC
            clear hrb4 hcu4
            go_upto_region 16 with (fail)
            go_region_law (first
              | (go_simp; go_at_call 32; refine (number_any (Blk.drew H6.out.1.cur) hcl1 (by omega)).mono ?_; rintro e7 w7 ⟨c2, x, b7, rfl, hnum, hcl2, hcur7, ho7⟩; have k1 := (H6.out.1.none_ ((Only.refl NoneOf w6).drew)).step hwC hcl2 hcur7 ho7; have k2 := (H6.out.2.1.drew).curS ho7 HRC.out; have k3 := OwnOf.cur (w := w6.drew) H6.out.2.2.1 ho7 (by omega); have k4 := (H6.out.2.2.2.drew).trans' ho7 (fun i _ e => .inl e); obtain ⟨A7, cap7, W2, hrun, e0, e1, f0, hnew⟩ := lots_step hwC hCR hwR ER.out HRB4.out HCU4.out HVR.out HUR.out hs HL.out.inv HL.out.few hcl HSE.out hnum k1 k2 k3 k4 51; have e9 := ((Only.refl NoneOf w7).alloc (.cells #[.int .i64 x] 3)).cell_some e0 (fun e => e); have hnm := hnum.1; have HNEW := Lib.hid hnew; clear hnew k1 k2 k3 k4 ho7 hcur7 hnum))
            all_goals
              go_wp2_with fail
              go_roundg (s.size - c2)
              case rel => exact ⟨_, _, c2, b7, rfl, HNEW.out⟩
              case measure => omega
          | false =>
            have hcom := HL.out.inv.done HSE.out
            have HCO := Lib.hid hcom
            clear hcom
            go_wp2_with fail
            refine (need_any H6.out.1.cur hcl1 (by omega) ⟨#[10]⟩ (by decide)).mono ?_
            rintro e w7 ⟨rfl, a4, b4, hn4, hl4, hcur7, ho7⟩
            have HM7 := Lib.hid (H6.out.1.step hwC hl4 hcur7 ho7)
            have hR7 := H6.out.2.1.curS ho7 hRC
            have hL7 := OwnOf.cur H6.out.2.2.1 ho7 (by omega)
            obtain ⟨_, lb, hnin, hnsin, hcs⟩ := reb_c HN2.out HN3.out HCO.out hn4
            have hst' := HST.out.reb_any HAL.out HSEE.out lb hnin hnsin hcs
            have HST' := Lib.hid hst'
            obtain ⟨LA, lcap, rfl, hlc1, hlc2⟩ := own_form' hL7
            have e0 : w7.cell? ⟨R, 0, none⟩ = some (.slice LA ns.length lcap) := hR7.cell 0
            have e1 : w7.cell? ⟨R, 1, none⟩ = some (.int .i64 n) := hR7.cell 1
            have hx : Only NoneOf w7 (w7.alloc (.cells #[.slice LA ns.length lcap, .int .i64 n] tReb)) := (Only.refl _ _).alloc _
            have hM8 := HM7.out.none_ hx
            obtain ⟨A8, cap8, W', hrun, k1, k2⟩ := run_append_reb (w7.alloc (.cells #[.slice LA ns.length lcap, .int .i64 n] tReb)) w.heap.size (.slice B rs.length bap) rs ⟨.slice LA ns.length lcap, n⟩ ⟨ns, n⟩ hM8.reb ⟨rfl, (OwnOf.slT inC_len hL7).none_ hx⟩ w7.heap.size (Blk.new w7 _ _) (by omega) (Nat.le_trans HM7.out.only.size hx.size) 30
            have hM9 : RpM s w C (.slice A es.length cap) (.slice A8 (rs.length + 1) cap8) es (rs ++ [⟨ns, n⟩]) a4 b4 W' := ⟨hl4, hM8.own.ts k2 (by decide) (by decide), by rw [List.length_append, List.length_singleton]; exact k1, Blk.ts hM8.cur k2 (by decide), only_base hM8.only (ts_base k2) (Nat.le_refl _)⟩
            have hlt : b4 = false → a1 < a4 := fun hb => by
              rcases hcs with ⟨_, hd⟩ | ⟨hb2, _⟩
              · have h1 := congrArg List.length hd
                have h2 := List.length_pos_iff.2 (lineOf_ne (wRebate, n :: ns))
                rw [List.length_drop, List.length_append, List.length_drop] at h1
                omega
              · rw [hb] at hb2
                cases hb2
            have g2 := HN2.out.1
            have g3 := HN3.out.1
            have g4 := HCO.out.1
            have g5 := hn4.1
            have hf1 : es.length + (rs ++ [(⟨ns, n⟩ : Rb)]).length ≤ a4 + b4.toNat := by
              rw [List.length_append, List.length_singleton]
              cases hb : b4 with
              | true => show _ ≤ a4 + 1; omega
              | false => have := hlt hb; show _ ≤ a4 + 0; omega
            have HNEW := Lib.hid (hM9.full HST'.out hf1)
            have HLT := Lib.hid hlt
            clear k1 k2 hx hM8 hM9 hR7 hL7 hn4 hcur7 ho7 hcs hst' hf1 hlt
            go_wp2_with fail
            go_roundg (rqK s a4 b4)
            case rel => exact ⟨_, _, a4, b4, rfl, HNEW.out⟩
            case measure => exact rqK_lt halt HLT.out
end Go.Proofs.YtpdlbmieciabmaaDoor
