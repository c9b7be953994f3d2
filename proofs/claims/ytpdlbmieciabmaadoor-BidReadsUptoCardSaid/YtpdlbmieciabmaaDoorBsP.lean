/- What is proved here: a price text is read, by the bids' code. Conditions: the text is short; the library's variables hold what their initialisers lay. -/
import Derived.Test.YtpdlbmieciabmaaDoorBrN
import Derived.Test.YtpdlbmieciabmaaDoorBrV
import Derived.Test.YtpdlbmieciabmaaDoorBrX
import Derived.OwnWalk
namespace Go.Proofs.YtpdlbmieciabmaaDoor
open Go.RowKit Go.Shelf
attribute [local go_sem ↓ high] aph_eq
/-- What the reader keeps. -/
structure PxS (s : ByteArray) (w : World) (rows : List (List ByteArray)) (lines v u : Value) (k : Nat) (es : List En) (rs : List Rb) (W : World) : Prop where
  inv : PI s.data.toList k es rs
  room : PB rows k es rs
  own : EnOwn W w.heap.size v es.length es
  reb : RbOwn W w.heap.size u rs.length rs
  rows : RowsOwn W w.heap.size lines rows.length rows
  only : Only NoneOf w W
theorem PxS.few {s : ByteArray} {w : World} {rows : List (List ByteArray)} {lines v u : Value} {k : Nat} {es : List En} {rs : List Rb} {W : World} {ok : Bool} (h : PxS s w rows lines v u k es rs W) (hs : SplitR s.data.toList rows ok) (hl : s.size ≤ 4000000) : es.length ≤ 1000000000 ∧ rs.length ≤ 1000000000 ∧ (pricL es rs).length ≤ 100000000 := by
  have h1 := h.room
  unfold PB at h1
  have h2 := rowsW_take_le rows k
  have h3 := hs.2.2
  have h4 := size_list s
  have h5 := textG_ge (pLines es rs)
  have h6 : (pLines es rs).length = es.length + rs.length := by unfold pLines; simp
  unfold pricL at h1 ⊢
  omega
theorem rebB_eq {s : ByteArray} : s = ⟨#[114, 101, 98, 97, 116, 101]⟩ ↔ s.data.toList = wRebate := ⟨fun h => by rw [h]; rfl, fun h => ba_ext h⟩
set_option maxRecDepth 100000 in
set_option maxHeartbeats 4000000 in
theorem readp_any (s : ByteArray) (hs : s.size ≤ 4000000) (w : World) (he : Env w) : Calls Tryd.prog 16 #[.string s] w (PRdE s w) := by
  have HE := Lib.hid he
  clear he
  go_enter Tryd.func16, Tryd.ntmps16
  go_wp2_with fail
  refine (bsplit_any s (by omega) w HE.out).mono ?_
  rintro e w1 ⟨rows, ok, rv, rfl, hsp, hown, ho1⟩
  obtain ⟨A, cap, rfl, hc1, hc2, _⟩ := hown.sl
  have hst : PxS s w rows (.slice A rows.length cap) (.slice none 0 0) (.slice none 0 0) 0 [] [] w1 := ⟨PI.new _, PB.new _, EnOwn.nil _ _, RbOwn.nil _ _, hown, ho1⟩
  have HST := Lib.hid hst
  have HSP := Lib.hid hsp
  clear hsp hown ho1 hst
  go_wp2_with fail
  go_loopw [7, 8, 20] (fun v u i wr => ∃ (k : Nat) (es : List En) (rs : List Rb), i = .int .i64 k ∧ k ≤ rows.length ∧ PxS s w rows (.slice A rows.length cap) v u k es rs wr) (fun _ _ i _ => rows.length - (intOf i).toNat)
  case atStart => exact ⟨0, [], [], rfl, Nat.zero_le _, HST.out⟩
  case round =>
    obtain ⟨k, es, rs, rfl, hk, hS⟩ := hrel
    have HS := Lib.hid hS
    obtain ⟨A2, cap2, rfl, hd1, hd2⟩ := hS.own.form
    obtain ⟨B2, bap2, rfl, hb1, hb2⟩ := hS.reb.form
    clear hS
    by_cases hlt : k < rows.length
    · obtain ⟨r, hr⟩ : ∃ r, rows[k]? = some r := ⟨_, List.getElem?_eq_getElem hlt⟩
      have hne := HSP.out.1 r (List.mem_of_getElem? hr)
      obtain ⟨t, r, rfl⟩ : ∃ t q, r = t :: q := by
        cases r with
        | nil => exact absurd rfl hne
        | cons t q => exact ⟨t, q, rfl⟩
      obtain ⟨A', cap', e', _, _, hrw⟩ := HS.out.rows.sl
      cases e'
      obtain ⟨g, o, u, rfl, c0, hsl⟩ := hrw k (t :: r) hr
      obtain ⟨A3, cap3, rfl, hf1, hf2, hat⟩ := id hsl
      obtain ⟨g3, o3, cur3, rfl, hb3, hr3⟩ := hat 0 t rfl
      have t0 : wr.cell? ⟨g3, o3, none⟩ = some (.string t) := by simpa using hr3 0 _ rfl
      have ik : (k : Int) < rows.length := by omega
      rw [List.length_cons] at hf1
      have HR := Lib.hid hr
      have HSL := Lib.hid hsl
      clear hr hrw hsl hat hr3 hne hb3
      have hrl : r.length ≤ 1000000000 := by
        have h1 := rowsW_take_le rows (k + 1)
        rw [rowsW_take HR.out] at h1
        have h2 := HSP.out.2.2
        have h3 := rowW_len (t :: r)
        have h4 := size_list s
        rw [List.length_cons] at h3
        omega
      have hrs : ∀ x ∈ r, x.size ≤ 1000000000 := fun x hx => by
        have h1 := rowsW_take_le rows (k + 1)
        rw [rowsW_take HR.out] at h1
        have h2 := HSP.out.2.2
        have h3 := rowW_mem (r := t :: r) (t := x) (by simp [hx])
        have h4 := size_list s
        omega
      have HRS := Lib.hid hrs
      clear hrs
      by_cases hr0 : r = []
      · subst hr0
        go_wp2_with fail
        all_goals
          refine (bnumbers_any [] HRS.out (by omega) _ wr ⟨_, _, rfl, Nat.zero_le _, by omega, fun i p h => by simp at h⟩ (HE.out.none HS.out.only)).mono ?_
          rintro e w2 ⟨ns, fine, nv, rfl, hn, hnv, ho2⟩
          obtain ⟨A4, cap4, rfl, hg1, hg2⟩ := own_form' hnv
          have hns : ns = [] := List.eq_nil_of_length_eq_zero (by have := hn.2.2; simpa [rowD] using this)
          subst hns
          have HF := Lib.hid (PI.no HSP.out HR.out hn (.inr (.inl rfl)))
          have HO2 := Lib.hid (HS.out.only.trans ho2)
          clear hn ho2 hnv
          cases fine
          all_goals
            go_wp2_with fail
            go_ret3
            exact PRdE.bad HF.out HO2.out
      · have hc3 : ¬ cap3 = 1 := fun e => hr0 (List.eq_nil_of_length_eq_zero (by omega))
        have hsl1 := HSL.out.drop 1 (by simp)
        rw [List.drop_one, List.tail_cons, List.length_cons, Nat.add_sub_cancel, Nat.one_mul] at hsl1
        have HSL1 := Lib.hid hsl1
        clear hsl1
        go_wp2_with fail
        refine (bnumbers_any r HRS.out hrl _ wr HSL1.out (HE.out.none HS.out.only)).mono ?_
        rintro e w2 ⟨ns, fine, nv, rfl, hn, hnown, ho2⟩
        obtain ⟨A4, cap4, rfl, hg1, hg2⟩ := own_form' hnown
        have HN := Lib.hid hn
        have HNO := Lib.hid hnown
        have HO2 := Lib.hid ho2
        have t2 : w2.cell? ⟨g3, o3, none⟩ = some (.string t) := ho2.cell_some t0 (fun e => e)
        have hfew := PxS.few HS.out HSP.out hs
        clear hn hnown ho2 t0 c0
        cases fine with
        | false =>
          have HF := Lib.hid (PI.no HSP.out HR.out HN.out (.inl rfl))
          go_wp2_with fail
          go_ret3
          exact PRdE.bad HF.out (HS.out.only.trans HO2.out)
        | true =>
          by_cases h0 : ns.length = 0
          · have d0 : ((ns.length : Int) == 0) = true := by
              rw [beq_iff_eq]
              omega
            have HF := Lib.hid (PI.no HSP.out HR.out HN.out (.inr (.inl h0)))
            go_wp2_with fail
            go_ret3
            exact PRdE.bad HF.out (HS.out.only.trans HO2.out)
          · have d0 : ((ns.length : Int) == 0) = false := by
              rw [beq_eq_false_iff_ne]
              omega
            obtain ⟨g4, cap5, e4, _, hg4, _, _⟩ := own_form HNO.out (by omega)
            simp only [Value.slice.injEq, true_and] at e4
            obtain ⟨rfl, rfl⟩ := e4
            have ncell : ∀ (j : Nat) (x : Int), ns[j]? = some x → w2.cell? ⟨g4, j, none⟩ = some (.int .i64 x) := fun j x hx => by
              have t1 := flat_get inC_len ns j 0 (by omega) x hx
              have t2 := World.ownsRow.cells HNO.out rfl (j * 1 + 0) (.int .i64 x) (by rw [t1]; rfl)
              rw [Addr.add_mid] at t2
              simpa using t2
            have NC := Lib.hid ncell
            clear ncell
            have l0 : (0 : Int) < (ns.length : Int) := by omega
            by_cases ht : t = lotB
            · have b1 := tx_litT (lot_eq.1 ht)
              unfold wLot at b1
              by_cases h2 : ns.length = 2
              · have d2 : ((ns.length : Int) == 2) = true := by
                  rw [beq_iff_eq]
                  omega
                obtain ⟨n, m, ens⟩ : ∃ n m, ns = [n, m] := by
                  match ns, h2 with
                  | [n, m], _ => exact ⟨n, m, rfl⟩
                have n0 := NC.out 0 n (by rw [ens]; rfl)
                have n1 := NC.out 1 m (by rw [ens]; rfl)
                have l1 : (1 : Int) < (ns.length : Int) := by omega
                have hN2 : NumsR (rowD r) [n, m] true := by rw [← ens]; exact HN.out
                have HQ := Lib.hid (HS.out.inv.lot HSP.out HR.out hN2 (lot_eq.1 ht))
                have HB := Lib.hid (HS.out.room.lot HR.out hN2 (lot_eq.1 ht))
                have hx : Only NoneOf w2 (w2.alloc (.cells #[.int .i64 0, .int .i64 n, .int .i64 0, .int .i64 m, .slice none 0 0] 47)).drew := ((Only.refl _ _).alloc _).drew
                obtain ⟨A5, cap5, W', hrun, k1, k2⟩ := run_append_lot (w2.alloc (.cells #[.int .i64 0, .int .i64 n, .int .i64 0, .int .i64 m, .slice none 0 0] 47)).drew w.heap.size (.slice A2 es.length cap2) es ⟨n, m, .slice none 0 0⟩ ⟨n, m, []⟩ (HS.out.own.none_ (HO2.out.trans hx)) ⟨rfl, rfl, OwnOf.nil _ _ _ _ _⟩ (fun _ _ _ _ _ _ e => by cases e) w2.heap.size ((Blk.new w2 _ _).drew) hfew.1 (Nat.le_trans (HS.out.only.trans HO2.out).size hx.size) 29
                have HNEW : Hid (PxS s w rows (.slice (some ⟨g, o, none⟩) rows.length cap) (.slice A5 (es.length + 1) cap5) (.slice B2 rs.length bap2) (k + 1) (es ++ [⟨n, m, []⟩]) rs W') := Lib.hid ⟨HQ.out, HB.out, by rw [List.length_append, List.length_singleton]; exact k1, (HS.out.reb.none_ (HO2.out.trans hx)).ts k2 (by decide) (by decide), (HS.out.rows.keep (HO2.out.trans hx) (fun _ _ e => e) (fun _ _ _ e => e)).ts k2 (by decide) (by decide), only_base (HS.out.only.trans (HO2.out.trans hx)) (ts_base k2) (Nat.le_refl _)⟩
                have c7 := hx.cell_some n0 (fun e => e)
                have c8 := hx.cell_some n1 (fun e => e)
                clear k1 k2 hx ht h0 h2 hN2 ens
                go_upto_region 12 with (fail)
                go_region
                go_wp2_with fail
                go_roundw
                case rel => exact ⟨k + 1, _, _, by go_num, by omega, HNEW.out⟩
                case measure => simp [intOf]; omega
              · have d2 : ((ns.length : Int) == 2) = false := by
                  rw [beq_eq_false_iff_ne]
                  omega
                have b2 := tx_litF (a := t) (l := wRebate) (by rw [lot_eq.1 ht]; decide)
                unfold wRebate at b2
                have HF := Lib.hid (PI.no HSP.out HR.out HN.out (.inr (.inr ⟨fun e => h2 e.2, by rw [lot_eq.1 ht]; decide⟩)))
                clear ht h0 h2
                go_wp2_with fail
                go_ret3
                exact PRdE.bad HF.out (HS.out.only.trans HO2.out)
            · have b1 := tx_litF (fun e => ht (lot_eq.2 e))
              unfold wLot at b1
              by_cases ht2 : t.data.toList = wRebate
              · have b2 := tx_litT ht2
                unfold wRebate at b2
                obtain ⟨n, rest, rfl⟩ : ∃ n q, ns = n :: q := by
                  cases ns with
                  | nil => exact absurd rfl h0
                  | cons n q => exact ⟨n, q, rfl⟩
                have n0 := NC.out 0 n rfl
                have HQ := Lib.hid (HS.out.inv.reb HSP.out HR.out HN.out ht2)
                have HB := Lib.hid (HS.out.room.reb HR.out HN.out ht2)
                have hslt := (OwnOf.slT inC_len HNO.out).drop 1 (by simp)
                rw [List.drop_one, List.tail_cons, List.length_cons, Nat.add_sub_cancel, Nat.one_mul, Nat.zero_add] at hslt
                rw [List.length_cons] at hg1 d0 l0
                obtain ⟨lv, hlv, hls⟩ : ∃ lv, ((cap4 = 1 ∧ lv = .slice (some ⟨g4, 0, none⟩) rest.length 0) ∨ (¬ cap4 = 1 ∧ lv = .slice (some ⟨g4, 1, none⟩) rest.length (cap4 - 1))) ∧ SlT 3 inC 1 w2 lv rest := by
                  by_cases hc4 : cap4 = 1
                  · have hr0 : rest = [] := List.eq_nil_of_length_eq_zero (by omega)
                    subst hr0
                    exact ⟨_, .inl ⟨hc4, rfl⟩, ⟨_, _, rfl, Nat.le_refl _, by omega, fun i p h => by simp at h⟩⟩
                  · exact ⟨_, .inr ⟨hc4, rfl⟩, hslt⟩
                have hx : Only NoneOf w2 (w2.alloc (.cells #[lv, .int .i64 n] 53)).drew := ((Only.refl _ _).alloc _).drew
                obtain ⟨A5, cap5, W', hrun, k1, k2⟩ := run_append_reb (w2.alloc (.cells #[lv, .int .i64 n] 53)).drew w.heap.size (.slice B2 rs.length bap2) rs ⟨lv, n⟩ ⟨rest, n⟩ (HS.out.reb.none_ (HO2.out.trans hx)) ⟨rfl, hls.none_ hx⟩ w2.heap.size ((Blk.new w2 _ _).drew) hfew.2.1 (Nat.le_trans (HS.out.only.trans HO2.out).size hx.size) 30
                have HNEW : Hid (PxS s w rows (.slice (some ⟨g, o, none⟩) rows.length cap) (.slice A2 es.length cap2) (.slice A5 (rs.length + 1) cap5) (k + 1) es (rs ++ [⟨rest, n⟩]) W') := Lib.hid ⟨HQ.out, HB.out, (HS.out.own.none_ (HO2.out.trans hx)).ts k2 (by decide) (by decide), by rw [List.length_append, List.length_singleton]; exact k1, (HS.out.rows.keep (HO2.out.trans hx) (fun _ _ e => e) (fun _ _ _ e => e)).ts k2 (by decide) (by decide), only_base (HS.out.only.trans (HO2.out.trans hx)) (ts_base k2) (Nat.le_refl _)⟩
                have c7 := hx.cell_some n0 (fun e => e)
                clear k1 k2 hx ht ht2 h0 hslt hls
                rcases hlv with ⟨hc4, rfl⟩ | ⟨hc4, rfl⟩
                all_goals
                  go_upto_region 14 with (fail)
                  go_region
                  go_wp2_with fail
                  go_roundw
                  case rel => exact ⟨k + 1, _, _, by go_num, by omega, HNEW.out⟩
                  case measure => simp [intOf]; omega
              · have b2 := tx_litF ht2
                unfold wRebate at b2
                have HF := Lib.hid (PI.no HSP.out HR.out HN.out (.inr (.inr ⟨fun e => ht (lot_eq.2 e.1), ht2⟩)))
                clear ht ht2 h0
                go_wp2_with fail
                go_ret3
                exact PRdE.bad HF.out (HS.out.only.trans HO2.out)
    · obtain rfl : k = rows.length := by omega
      have ik : ¬ (rows.length : Int) < rows.length := by omega
      obtain ⟨hq1, hq2⟩ := PI.all HSP.out HS.out.inv
      have HQ1 := Lib.hid hq1
      have HQ2 := Lib.hid hq2
      have HEN := Lib.hid HS.out.own.sl
      have HRB := Lib.hid HS.out.reb.sl
      have htx := (PxS.few HS.out HSP.out hs).2.2
      clear hq1 hq2
      cases ok with
      | false =>
        have HF := Lib.hid (fun fs us hq => (by have := (HQ2.out fs us hq).1; cases this) : ∀ fs us, ¬ PRd s.data.toList fs us)
        go_wp2_with fail
        go_ret3
        exact PRdE.bad HF.out HS.out.only
      | true =>
        go_wp2_with fail
        refine (prices_any es rs (fun e he => (HS.out.inv.1 e he).1) HS.out.inv.2.1 htx _ _ wr HEN.out HRB.out (HE.out.none HS.out.only).tab).mono ?_
        rintro e w3 ⟨u, rfl, hu, ho3⟩
        have HO3 := Lib.hid ho3
        have HU := Lib.hid hu
        clear hu ho3
        by_cases heq : u = s
        · have b1 := tx_listT heq
          have HF := Lib.hid (HQ1.out (by rw [← HU.out, heq]))
          have HOW := Lib.hid (HS.out.own.none_ HO3.out)
          have HRW := Lib.hid (HS.out.reb.none_ HO3.out)
          clear heq
          go_wp2_with fail
          go_ret3
          exact PRdE.ok HF.out HOW.out HRW.out (HS.out.only.trans HO3.out)
        · have b1 := tx_listF heq
          have HF := Lib.hid (fun fs us hq => heq (ba_ext (by have := (HQ2.out fs us hq).2.1; rw [HU.out, this])) : ∀ fs us, ¬ PRd s.data.toList fs us)
          clear heq
          go_wp2_with fail
          go_ret3
          exact PRdE.bad HF.out (HS.out.only.trans HO3.out)
end Go.Proofs.YtpdlbmieciabmaaDoor
