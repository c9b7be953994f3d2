/- What is proved here: several parts. whether a path is right, by the program. Conditions: the head is of at most 1000 leaves, the text is short, the hashes have 32 bytes. · a client is shown a receipt. Conditions: those of certified; the event is well and short. -/
import Derived.Test.YtgalfohobgjelaaGreatDoorNi26
import Derived.Test.YtgalfohobgjelaaGreatDoorNi30
import Derived.BigQuiet
namespace Go.Proofs.YtgalfohobgjelaaGreatDoor
open Go.RowKit Go.Shelf
attribute [local go_sem ↓ high] haLoad_eq haStore_eq
/-- What a path's first k hashes make of a leaf. -/
def foldK (x : Hs) (S : List Bool) (Q : List Hs) (k : Nat) : Hs := ((S.zip Q).take k).foldl (fun y sh => stepH sh.1 sh.2 y) x
theorem foldK_next {x : Hs} {S : List Bool} {Q : List Hs} {k : Nat} {s : Bool} {t : Hs} (hs : S[k]? = some s) (ht : Q[k]? = some t) : foldK x S Q (k + 1) = stepH s t (foldK x S Q k) := by
  unfold foldK
  have h : (S.zip Q)[k]? = some (s, t) := by rw [List.getElem?_zip_eq_some]; exact ⟨hs, ht⟩
  rw [List.take_add_one, h, List.foldl_append]
  rfl
theorem foldK_len {x : Hs} (hx : x.length = 32) (S : List Bool) (Q : List Hs) (k : Nat) : (foldK x S Q k).length = 32 := by
  unfold foldK
  generalize (S.zip Q).take k = l
  induction l generalizing x with
  | nil => exact hx
  | cons a l ih => exact ih (by show (stepH a.1 a.2 x).length = 32; unfold stepH; split <;> exact nodeL_len _ _)
theorem foldK_all {f i n : Nat} {x : Hs} {Q : List Hs} (h : Q.length = depthF f i n) : foldK x (wayF f i n).reverse Q Q.length = upF f x i n Q.reverse := by
  unfold foldK
  rw [up_fold h, List.take_of_length_le (by rw [List.length_zip]; omega)]
/-- What lies there while a path is followed. -/
structure CqS (w : World) (B X : Nat) (h : Hd) (v sv : Value) (Q : List Hs) (S : List Bool) (y : Hs) (W : World) : Prop where
  a : HdAt W B h
  r : W.rangeAt B 1 (h.root.map bv)
  l : HaSl W v Q
  s : StOwn W w.heap.size sv S.length S
  y : HaAt W X y
  only : Only NoneOf w W
theorem CqS.keep {w : World} {B X : Nat} {h : Hd} {v sv : Value} {Q : List Hs} {S : List Bool} {y : Hs} {W W' : World} (hh : CqS w B X h v sv Q S y W) (ho : Only NoneOf W W') : CqS w B X h v sv Q S y W' :=
  ⟨Blk.only hh.a ho (fun e => e), rng_only hh.r ho, hh.l.only ho, own_only hh.s ho (fun _ _ e => e), Blk.only hh.y ho (fun e => e), hh.only.trans ho⟩
theorem CqS.put {w : World} {B X : Nat} {h : Hd} {v sv : Value} {Q : List Hs} {S : List Bool} {y m : Hs} {W : World} (hh : CqS w B X h v sv Q S y W) (hB : B < X) (hX : w.heap.size ≤ X) (hs : HaSl w v Q) (hy : y.length = 32) (hm : m.length = 32) : CqS w B X h v sv Q S m (W.setCells X 0 (m.map bv)) := by
  have hne := own_blk_ne hh.s hh.y (by decide)
  have ho : Only NoneOf w (W.setCells X 0 (m.map bv)) := only_setCells hh.only X 0 (.inr hX) _
  have ha : HdAt (W.setCells X 0 (m.map bv)) B h := Blk.farCells (by omega) _ 0 hh.a
  exact ⟨ha, range_root (blk_range ha), hs.only ho, own_only hh.s (only_setCells (S := fun k => k = X) (Only.refl _ _) X 0 (.inl rfl) _) (fun k hk e => hne (by rw [hk, e])), hh.y.put hy hm, ho⟩
set_option maxRecDepth 100000 in
set_option maxHeartbeats 4000000 in
theorem checkpath_any (h : Hd) (s : Nat) (hs : h.size = (s : Int)) (hs2 : s ≤ 1000) (hl : h.root.length = 32) (i : Int) (x : ByteArray) (hx : x.size ≤ 17592186044416) (Q : List Hs) (hok : HsOk Q) (v : Value) (w : World) (hv' : HaSl w v Q) :
    Calls Tryz.prog 62 #[.agg (hdC h).toArray, .int .i64 i, .string x, v] w fun e w' => e = .returned (.bool (ckP h.root s i x.data.toList Q)) ∧ Only NoneOf w w' := by
  obtain ⟨A, cap, rfl, hlc, hcm, hA⟩ := id hv'
  have hS0 := CpS.new (h := h) hv'
  obtain ⟨B, eB⟩ : ∃ B, B = w.heap.size := ⟨_, rfl⟩
  rw [← eB] at hS0
  have HS0 := Lib.hid hS0
  have EB := Lib.hid eB
  have HSZ := Lib.hid hs
  have HL := Lib.hid hl
  clear hS0 eB
  by_cases h1 : i < 0
  · have hc : ckP h.root s i x.data.toList Q = false := by unfold ckP; rw [if_pos h1]
    rw [hc]
    have d1 : decide (i < 0) = true := decide_eq_true h1
    clear hc hv' h1 hs hA
    go_enter Tryz.func62, Tryz.ntmps62
    go_upto_region 1 with (fail)
    rw [← EB.out]
    refine wp_gen (CpS w B h (.slice A Q.length cap) Q) HS0.out ?_
    intro Z hZ
    have HO := Lib.hid hZ.only
    clear hZ HS0
    go_wp2_with fail
    go_ret
    exact ⟨rfl, HO.out⟩
  · have d1 : decide (i < 0) = false := decide_eq_false h1
    by_cases h2 : (s : Int) ≤ i
    · have hc : ckP h.root s i x.data.toList Q = false := by unfold ckP; rw [if_neg h1, if_pos h2]
      rw [hc]
      have d2 : decide ((s : Int) ≤ i) = true := decide_eq_true h2
      clear hc hv' h1 h2 hs hA
      go_enter Tryz.func62, Tryz.ntmps62
      go_upto_region 1 with (fail)
      rw [← EB.out]
      refine wp_gen (CpS w B h (.slice A Q.length cap) Q) HS0.out ?_
      intro Z hZ
      have c0 : Z.cell? ⟨B, 0, none⟩ = some (.int .i64 (s : Int)) := by rw [← HSZ.out]; exact Blk.cell hZ.a 0
      have HO := Lib.hid hZ.only
      clear hZ HS0
      go_wp2_with fail
      go_ret
      exact ⟨rfl, HO.out⟩
    · have d2 : decide ((s : Int) ≤ i) = false := decide_eq_false h2
      obtain ⟨j, rfl⟩ : ∃ j : Nat, i = (j : Int) := ⟨i.toNat, by omega⟩
      have d2n : decide (s ≤ j) = false := decide_eq_false (by omega)
      have d2m : ¬ s ≤ j := by omega
      obtain ⟨S, eS⟩ : ∃ S, S = (wayF s j s).reverse := ⟨_, rfl⟩
      have hSl : S.length = depthF s j s := by rw [eS, List.length_reverse, way_len]
      have hSle := depthF_le s j s
      have hway : ∀ W, Calls Tryz.prog 105 #[.int .i64 (j : Int), .int .i64 (s : Int)] W fun e w' => ∃ ov, e = .returned ov ∧ StOwn w' W.heap.size ov S.length S ∧ Only NoneOf W w' := fun W => by rw [eS]; exact way_any j s (by omega) hs2 W
      have HWY := Lib.hid hway
      have hck : ckP h.root s (j : Int) x.data.toList Q = if Q.length = S.length then (upF s (leafL x.data.toList) j s Q.reverse == h.root) else false := by
        unfold ckP
        rw [if_neg h1, if_neg h2, Int.toNat_natCast, hSl]
      rw [hck]
      by_cases h3 : Q.length = S.length
      · have d3 : ((S.length : Int) == (Q.length : Int)) = true := by simp [h3]
        have d4 : ((S.length : Int) != (Q.length : Int)) = false := by simp [h3]
        rw [if_pos h3]
        obtain ⟨y, ey⟩ : ∃ y, y = leafL x.data.toList := ⟨_, rfl⟩
        have hy : y.length = 32 := by rw [ey]; exact leafL_len _
        have hfin : upF s y j s Q.reverse = foldK y S Q Q.length := by rw [eS, foldK_all (by rw [h3, hSl])]
        have hleaf : ∀ W, Calls Tryz.prog 106 #[.string x] W fun e w' => e = .returned (hv y) ∧ Only NoneOf W w' := fun W => by rw [ey]; exact tleaf_any x W hx
        rw [← ey, hfin]
        have HF := Lib.hid hleaf
        have HY := Lib.hid hy
        have HA := Lib.hid hA
        have HV := Lib.hid hv'
        have HOK := Lib.hid hok
        have H3 := Lib.hid h3
        have hQ : Q.length ≤ 1000 := by omega
        clear hleaf hway ey hck hfin h3 hok hv' h1 h2 hs hx hA eS hSl hSle hy
        go_enter Tryz.func62, Tryz.ntmps62
        go_upto_region 1 with (fail)
        rw [← EB.out]
        refine wp_gen (CpS w B h (.slice A Q.length cap) Q) HS0.out ?_
        intro Z hZ
        have c0 : Z.cell? ⟨B, 0, none⟩ = some (.int .i64 (s : Int)) := by rw [← HSZ.out]; exact Blk.cell hZ.a 0
        have HZ := Lib.hid hZ
        clear hZ HS0
        go_wp2_with fail
        refine (HWY.out _).mono ?_
        rintro e1 w1 ⟨sv, rfl, hsv, ho1⟩
        obtain ⟨sA, scap, rfl, hsc1, hsc2⟩ := own_form' hsv
        rw [maxLen_val] at hsc2
        have HW1 := Lib.hid (And.intro (HZ.out.keep ho1) (own_lower hsv HZ.out.only.size))
        clear hsv ho1 c0 HZ HWY
        go_wp2_with fail
        refine (HF.out _).mono ?_
        rintro e2 w2 ⟨rfl, ho2⟩
        have hstn := fresh_store w2 y HY.out
        have hO2 : Only NoneOf w1 ((w2.alloc (.cells zeroLit 35)).setCells w2.heap.size 0 (y.map bv)) := ho2.trans (only_setCells ((Only.refl _ w2).alloc _) w2.heap.size 0 (.inr (Nat.le_refl _)) (y.map bv))
        have hlt : B < w2.heap.size := Nat.lt_of_lt_of_le (Blk.lt HW1.out.1.a) ho2.size
        have hwX : w.heap.size ≤ w2.heap.size := Nat.le_trans HW1.out.1.only.size ho2.size
        obtain ⟨X, eX⟩ : ∃ X, X = w2.heap.size := ⟨_, rfl⟩
        have hat : HaAt ((w2.alloc (.cells zeroLit 35)).setCells w2.heap.size 0 (y.map bv)) w2.heap.size y := (fresh_at w2).put rfl HY.out
        rw [← eX] at hO2 hlt hat hwX
        have hC0 : CqS w B X h (.slice A Q.length cap) (.slice sA S.length scap) Q S (foldK y S Q 0) ((w2.alloc (.cells zeroLit 35)).setCells X 0 (y.map bv)) :=
          have hk := HW1.out.1.keep hO2
          ⟨hk.a, hk.r, hk.l, own_only HW1.out.2 hO2 (fun _ _ e => e), hat, hk.only⟩
        have HC0 := Lib.hid hC0
        have EX := Lib.hid eX
        clear hO2 hat hC0 ho2 eX HW1 HF
        go_upto_region 7 with (fail)
        rw [← EX.out]
        refine wp_gen (CqS w B X h (.slice A Q.length cap) (.slice sA S.length scap) Q S (foldK y S Q 0)) HC0.out ?_
        intro Y hY
        have HYY := Lib.hid hY
        clear hY HC0 hstn EX
        go_wp2_with fail
        go_loopw [34] (fun kv wr => ∃ k : Nat, kv = .int .i64 (k : Int) ∧ k ≤ Q.length ∧ CqS w B X h (.slice A Q.length cap) (.slice sA S.length scap) Q S (foldK y S Q k) wr) (fun kv _ => Q.length - (intOf kv).toNat)
        case atStart => exact ⟨0, rfl, by omega, HYY.out⟩
        case round =>
          obtain ⟨k, rfl, hk, hC⟩ := hrel
          have hSQ : (S.length : Int) = (Q.length : Int) := by rw [H3.out]
          have HSQ := Lib.hid hSQ
          by_cases hlt2 : k < Q.length
          · have d5 : decide ((k : Int) < (S.length : Int)) = true := decide_eq_true (by omega)
            have d6 : k < S.length := by have := H3.out; omega
            obtain ⟨sb, hsb⟩ : ∃ b, S[k]? = some b := ⟨_, List.getElem?_eq_getElem d6⟩
            obtain ⟨t, ht⟩ : ∃ t, Q[k]? = some t := ⟨_, List.getElem?_eq_getElem hlt2⟩
            have htl := HOK.out t (List.mem_of_getElem? ht)
            obtain ⟨g, o, rfl, hg, hr⟩ := HA.out k t ht
            have hr : w.rangeAt g (o + k * 32) (t.map bv) := hr
            have hnx := foldK_next (x := y) hsb ht
            obtain ⟨sg, scap2, esv, hs1, hs2, hs3, hs4⟩ := own_form hC.s (by omega)
            simp only [Value.slice.injEq, true_and] at esv
            obtain ⟨rfl, rfl⟩ := esv
            have cs : wr.cell? ⟨sg, k, none⟩ = some (.bool sb) := StOwn.cell hC.s hsb
            have k0 : (0 : Int) ≤ (k : Int) := by omega
            have k1 : (k : Int) < (S.length : Int) := by omega
            have k2 : (k : Int) < (Q.length : Int) := by omega
            have hal := hC.keep ((Only.refl NoneOf wr).alloc (.cells #[.bool sb] 155))
            have HC := Lib.hid hC
            have HNX := Lib.hid hnx
            have HR := Lib.hid hr
            have HTL := Lib.hid htl
            clear hC hnx hr htl hsb ht hg
            cases sb with
            | true =>
              have hk1 : (foldK y S Q k).length = 32 := foldK_len HY.out S Q k
              obtain ⟨z, ez⟩ : ∃ z, z = foldK y S Q k := ⟨_, rfl⟩
              have hnx2 : foldK y S Q (k + 1) = nodeL t z := by rw [HNX.out, ez]; rfl
              obtain ⟨m, em⟩ : ∃ m, m = foldK y S Q (k + 1) := ⟨_, rfl⟩
              have hml : m.length = 32 := by rw [em]; exact foldK_len HY.out S Q _
              rw [← em] at hnx2
              rw [← ez] at hk1
              have hnode : ∀ W, Calls Tryz.prog 84 #[hv t, hv z] W fun e w' => e = .returned (hv m) ∧ Only NoneOf W w' := fun W => by rw [hnx2]; exact tnode_any _ _ (by first | exact hk1 | exact HTL.out) (by first | exact hk1 | exact HTL.out) W
              have hC1 := HC.out.keep ((Only.refl NoneOf wr).alloc (.cells #[.bool true] 155))
              rw [← ez] at hC1
              have HN := Lib.hid hnode
              have HC1 := Lib.hid hC1
              have HML := Lib.hid hml
              have HK1 := Lib.hid hk1
              have EM := Lib.hid em
              clear hnode hC1 hml hk1 em hnx2 ez HNX
              go_upto_region 11 with (fail)
              refine wp_gen (CqS w B X h (.slice (some ⟨g, o, none⟩) Q.length cap) (.slice (some ⟨sg, 0, none⟩) S.length scap) Q S z) HC1.out ?_
              intro V hVV
              obtain ⟨ft, hfx⟩ := family (CqS w B X h (.slice (some ⟨g, o, none⟩) Q.length cap) (.slice (some ⟨sg, 0, none⟩) S.length scap) Q S z) (W0 := V.drew) (hVV.keep (Only.refl NoneOf V).drew)
              obtain ⟨F, hI, hF0, hF, hFS⟩ := hfx
              have f1 : ∀ q, (haLoad (.pointer (some ⟨X, 0, none⟩))).run Tryz.prog (F q) = .ok (hv z) (F q) := fun q => ha_load (hFS q).y.range HK1.out
              have f2 : ∀ q, (haLoad (.pointer (some ⟨g, o + k * 32, none⟩))).run Tryz.prog (F q) = .ok (hv t) (F q) := fun q => ha_load (rng_only HR.out (hFS q).only) HTL.out
              have D1 : Hid (∀ q, Calls Tryz.prog 84 #[hv t, hv z] (F q) fun e w' => e = .returned (hv m) ∧ ∃ q', w' = F q') := Lib.hid (fun q => (HN.out _).mono (fun e w' hh => ⟨hh.1, (hF w').1 ((hFS q).keep hh.2)⟩))
              have HFF := Lib.hid hF
              have HF0 := Lib.hid hF0
              clear hF hF0 hFS hVV cs
              refine wp_region_family_tail F 6 (by kernel_rfl) (by kernel_rfl) HF0.out ?_
              simp only [List.take_succ_cons, List.take_zero, List.drop_succ_cons, List.drop_zero]
              repeat (go_big_quiet_step (with_reducible exact D1.out _))
              refine wpQuiet_nil ?_
              intro w9 hw9
              have hS9 := (HFF.out w9).2 hw9
              have hst := ha_store hS9.y HK1.out HML.out
              have HP := Lib.hid (hS9.put hlt hwX HV.out HK1.out HML.out)
              clear hw9 hS9 f1 f2
              go_wp2_with fail
              go_roundw
              case rel => exact ⟨k + 1, by go_num, by omega, by rw [← EM.out]; exact HP.out⟩
              case measure => simp [intOf]; omega
            | false =>
              have hk1 : (foldK y S Q k).length = 32 := foldK_len HY.out S Q k
              obtain ⟨z, ez⟩ : ∃ z, z = foldK y S Q k := ⟨_, rfl⟩
              have hnx2 : foldK y S Q (k + 1) = nodeL z t := by rw [HNX.out, ez]; rfl
              obtain ⟨m, em⟩ : ∃ m, m = foldK y S Q (k + 1) := ⟨_, rfl⟩
              have hml : m.length = 32 := by rw [em]; exact foldK_len HY.out S Q _
              rw [← em] at hnx2
              rw [← ez] at hk1
              have hnode : ∀ W, Calls Tryz.prog 84 #[hv z, hv t] W fun e w' => e = .returned (hv m) ∧ Only NoneOf W w' := fun W => by rw [hnx2]; exact tnode_any _ _ (by first | exact hk1 | exact HTL.out) (by first | exact hk1 | exact HTL.out) W
              have hC1 := HC.out.keep ((Only.refl NoneOf wr).alloc (.cells #[.bool false] 155))
              rw [← ez] at hC1
              have HN := Lib.hid hnode
              have HC1 := Lib.hid hC1
              have HML := Lib.hid hml
              have HK1 := Lib.hid hk1
              have EM := Lib.hid em
              clear hnode hC1 hml hk1 em hnx2 ez HNX
              go_upto_region 12 with (fail)
              refine wp_gen (CqS w B X h (.slice (some ⟨g, o, none⟩) Q.length cap) (.slice (some ⟨sg, 0, none⟩) S.length scap) Q S z) HC1.out ?_
              intro V hVV
              obtain ⟨ft, hfx⟩ := family (CqS w B X h (.slice (some ⟨g, o, none⟩) Q.length cap) (.slice (some ⟨sg, 0, none⟩) S.length scap) Q S z) (W0 := V.drew) (hVV.keep (Only.refl NoneOf V).drew)
              obtain ⟨F, hI, hF0, hF, hFS⟩ := hfx
              have f1 : ∀ q, (haLoad (.pointer (some ⟨X, 0, none⟩))).run Tryz.prog (F q) = .ok (hv z) (F q) := fun q => ha_load (hFS q).y.range HK1.out
              have f2 : ∀ q, (haLoad (.pointer (some ⟨g, o + k * 32, none⟩))).run Tryz.prog (F q) = .ok (hv t) (F q) := fun q => ha_load (rng_only HR.out (hFS q).only) HTL.out
              have D1 : Hid (∀ q, Calls Tryz.prog 84 #[hv z, hv t] (F q) fun e w' => e = .returned (hv m) ∧ ∃ q', w' = F q') := Lib.hid (fun q => (HN.out _).mono (fun e w' hh => ⟨hh.1, (hF w').1 ((hFS q).keep hh.2)⟩))
              have HFF := Lib.hid hF
              have HF0 := Lib.hid hF0
              clear hF hF0 hFS hVV cs
              refine wp_region_family_tail F 6 (by kernel_rfl) (by kernel_rfl) HF0.out ?_
              simp only [List.take_succ_cons, List.take_zero, List.drop_succ_cons, List.drop_zero]
              repeat (go_big_quiet_step (with_reducible exact D1.out _))
              refine wpQuiet_nil ?_
              intro w9 hw9
              have hS9 := (HFF.out w9).2 hw9
              have hst := ha_store hS9.y HK1.out HML.out
              have HP := Lib.hid (hS9.put hlt hwX HV.out HK1.out HML.out)
              clear hw9 hS9 f1 f2
              go_wp2_with fail
              go_roundw
              case rel => exact ⟨k + 1, by go_num, by omega, by rw [← EM.out]; exact HP.out⟩
              case measure => simp [intOf]; omega
          · obtain rfl : k = Q.length := by omega
            have d5 : decide ((Q.length : Int) < (S.length : Int)) = false := decide_eq_false (by omega)
            have d6 : ¬ Q.length < S.length := by have := H3.out; omega
            obtain ⟨u, eu⟩ : ∃ u, u = foldK y S Q Q.length := ⟨_, rfl⟩
            have hul : u.length = 32 := by rw [eu]; exact foldK_len HY.out S Q _
            rw [← eu] at hC
            have EU := Lib.hid eu
            have l1 : (haLoad (.pointer (some ⟨X, 0, none⟩))).run Tryz.prog wr = .ok (hv u) wr := ha_load hC.y.range hul
            have l2 : (haLoad (.pointer (some ⟨B, 1, none⟩))).run Tryz.prog wr = .ok (hv h.root) wr := ha_load hC.r HL.out
            have g1 : ∀ p q, (eqGuard .eql 35 p q (hv u) (hv h.root)).run Tryz.prog wr = .ok () wr := fun p q => run_eqGuard_agg _ _ _ _ _ _ _ (by kernel_rfl)
            have e1 : (binOp .eql 35 (hv u) (hv h.root)).run Tryz.prog wr = .ok (.bool (u == h.root)) wr := eql_hash u h.root hul HL.out wr
            have HO := Lib.hid hC.only
            clear hC eu hul hlt2 hk hSQ
            go_wp2_with fail
            go_ret
            exact ⟨ret_bool (by rw [EU.out]), HO.out⟩
      · have d3 : ((S.length : Int) == (Q.length : Int)) = false := by rw [beq_eq_false_iff_ne]; omega
        have d4 : ((S.length : Int) != (Q.length : Int)) = true := by simp only [bne, d3]; rfl
        rw [if_neg h3]
        clear hway hck h3 hok hv' h1 h2 hs hx hA eS hSl hSle
        go_enter Tryz.func62, Tryz.ntmps62
        go_upto_region 1 with (fail)
        rw [← EB.out]
        refine wp_gen (CpS w B h (.slice A Q.length cap) Q) HS0.out ?_
        intro Z hZ
        have c0 : Z.cell? ⟨B, 0, none⟩ = some (.int .i64 (s : Int)) := by rw [← HSZ.out]; exact Blk.cell hZ.a 0
        have HZ := Lib.hid hZ
        clear hZ HS0
        go_wp2_with fail
        refine (HWY.out _).mono ?_
        rintro e1 w1 ⟨sv, rfl, hsv, ho1⟩
        obtain ⟨sA, scap, rfl, hsc1, hsc2⟩ := own_form' hsv
        have HO := Lib.hid (HZ.out.only.trans ho1)
        clear hsv ho1 HZ c0
        go_wp2_with fail
        go_ret
        exact ⟨rfl, HO.out⟩
end Go.Proofs.YtgalfohobgjelaaGreatDoor
namespace Go.Proofs.YtgalfohobgjelaaGreatDoor
open Go.RowKit Go.Shelf
attribute [local go_sem ↓ high] suLoad_eq evLoad_eq hdLoad_eq hdNew_eq hdStore_eq
theorem evCode_short {e : Ev} (he : e.Ok) (hn : e.name.size ≤ 1000000000) (hx : e.text.size ≤ 1000000000) : (evCode e).length ≤ 17592186044416 := by
  have l1 := numsL_len e.nums he.nums_in
  have l2 := hexL_len e.prev
  have l3 := quoL_len e.name.data.toList (by rw [← size_list]; omega)
  have l4 := quoL_len e.text.data.toList (by rw [← size_list]; omega)
  have l0 := numsL_len [e.r, e.s] (by
    intro x hx
    simp only [List.mem_cons, List.not_mem_nil, or_false] at hx
    rcases hx with rfl | rfl
    · exact he.r
    · exact he.s)
  rw [← size_list] at l3 l4
  rw [he.prev] at l2
  have l5 : e.nums.length = 10 := rfl
  simp only [List.length_cons, List.length_nil] at l0
  unfold evCode evText
  simp only [List.length_append, List.length_cons, List.length_nil]
  omega
theorem tx_beq {a b : ByteArray} (h : a = b) : (a == b) = true := by
  subst h
  cases a with
  | mk d => show (d == d) = true; simp
theorem tx_bne {a b : ByteArray} (h : ¬ a = b) : (a == b) = false := by
  cases a with
  | mk d =>
    cases b with
    | mk f =>
      show (d == f) = false
      rw [beq_eq_false_iff_ne]
      intro e
      exact h (by rw [e])
/-- What is said ahead of the votes. -/
noncomputable def rcPre (P : List Pers) (id : Int) (sent : Bool) (text : ByteArray) (e : Ev) : Int :=
  if sent = false then 34 else if verL P e ≠ 0 then verL P e else if e.who ≠ id then 35 else if e.kind ≠ 4 then 35 else if e.text ≠ text then 20 else 0
/-- What is said behind them. -/
def rcPost (o : Option Hd) (e : Ev) (Q : List Hs) : Int :=
  match o with
  | none => 24
  | some h => if ckP h.root h.size.toNat e.seq (evCode e) Q = true then 0 else 41
/-- What lies there. -/
structure RcS (w : World) (base E : Nat) (c : Cli) (e : Ev) (W : World) : Prop where
  cli : CliAt W base c
  ev : Blk W E tEv (evC e).toArray
  only : Only NoneOf w W
theorem RcS.none_ {w : World} {base E : Nat} {c : Cli} {e : Ev} {W W' : World} (h : RcS w base E c e W) (ho : Only NoneOf W W') : RcS w base E c e W' := ⟨h.cli.nn ho, h.ev.only ho (fun h => h.elim), h.only.trans ho⟩
theorem RcS.ld {w : World} {base E : Nat} {c : Cli} {e : Ev} {W : World} (h : RcS w base E c e W) (he : e.prev.length = 32) : (evLoad (.pointer (some ⟨E, 0, none⟩))).run Tryz.prog W = .ok (.agg (evC e).toArray) W :=
  ev_load_at (fun j v hj => by rw [Nat.zero_add, h.ev.cell]; simpa using hj) he
theorem RcS.su {w : World} {base E : Nat} {c : Cli} {e : Ev} {W : World} (h : RcS w base E c e W) : (suLoad (.pointer (some ⟨c.C, 1, none⟩))).run Tryz.prog W = .ok (setV c.pv) W := su_load (cli_setup h.cli.blk)
/-- What lies there behind the votes. -/
structure RcT (w : World) (base E N : Nat) (c c9 : Cli) (n : Hd) (e : Ev) (W : World) : Prop where
  cli : CliAt W base c9
  step : CliStep w W c c9
  hd : HdAt W N n
  ev : Blk W E tEv (evC e).toArray
  only : Only NoneOf w W ∨ True
theorem RcT.none_ {w : World} {base E N : Nat} {c c9 : Cli} {n : Hd} {e : Ev} {W W' : World} (h : RcT w base E N c c9 n e W) (ho : Only NoneOf W W') : RcT w base E N c c9 n e W' :=
  ⟨h.cli.nn ho, h.step.trans (CliStep.nn ho), Blk.only h.hd ho (fun e => e), h.ev.only ho (fun h => h.elim), .inr trivial⟩
set_option maxRecDepth 100000 in
set_option maxHeartbeats 4000000 in
theorem receipt_any (w0 : World) (ht : Tab w0) (c : Cli) (base : Nat) (hb0 : w0.heap.size ≤ base) (hcs : c.seen = c.votes) (hP : PersOk c.P) (hpub : ∀ p ∈ c.P, In p.pub) (hlen : c.P.length ≤ 1000) (L : List Vt) (hok : VtsOk L) (hsv : SmallV L) (hL : L.length ≤ 1000) (hn : c.votes.length ≤ 50000) (sv : Value) (e : Ev) (he : e.Ok) (hen : e.name.size ≤ 1000000000) (het : e.text.size ≤ 1000000000) (Q : List Hs) (hqok : HsOk Q) (qv : Value) (w : World) (how : Only NoneOf w0 w) (h : CliAt w base c) (hb : base ≤ w.heap.size) (hs : VtSl w sv L) (ha : ApartC c sv) (hq : HaSl w qv Q) (hqa : ApartC c qv) :
    Calls Tryz.prog 30 #[.pointer (some ⟨c.C, 0, none⟩), .agg (evC e).toArray, qv, sv] w fun e' w' => (rcPre c.P c.id c.sent c.text e ≠ 0 ∧ e' = .returned (.int .i64 (rcPre c.P c.id c.sent c.text e)) ∧ CliAt w' base c ∧ CliStep w w' c c) ∨ (rcPre c.P c.id c.sent c.text e = 0 ∧ ∃ o, BestL c.P L o ∧ e' = .returned (.int .i64 (rcPost o e Q)) ∧ ∃ vv mv, CliAt w' base { c.took vv mv L with rc := c.rc || decide (rcPost o e Q = 0) } ∧ CliStep w w' c { c.took vv mv L with rc := c.rc || decide (rcPost o e Q = 0) }) := by
  obtain ⟨E, eE⟩ : ∃ E, E = w.heap.size := ⟨_, rfl⟩
  have h0 : RcS w base E c e (w.alloc (.cells (evC e).toArray tEv)) := ⟨h.nn ((Only.refl _ _).alloc _), by rw [eE]; exact Blk.new w _ _, (Only.refl _ _).alloc _⟩
  have H0 := Lib.hid h0
  have EE := Lib.hid eE
  have H := Lib.hid h
  have HE := Lib.hid he
  have HVE : Hid (∀ W, RcS w base E c e W → Calls Tryz.prog 61 #[setV c.pv, .agg (evC e).toArray] W fun e' w' => e' = .returned (.int .i64 (verL c.P e)) ∧ Only NoneOf W w') := Lib.hid (fun W hW => everify_any c.P c.pv _ _ _ _ _ e he (by omega) (by omega) W (PerOwn.sl hW.cli.pers) hpub (ht.none (how.trans hW.only)))
  have HTAB : Hid (Tab w0) := Lib.hid ht
  have HHOW : Hid (Only NoneOf w0 w) := Lib.hid how
  have HCE : Hid (∀ W, RcS w base E c e W → Calls Tryz.prog 46 #[.pointer (some ⟨c.C, 0, none⟩), sv] W fun e w' => ∃ o, BestOn (fun h => h ∈ L.map (·.head)) (fun h => certB c.P h L) o ∧ e = .returned (.tuple #[.agg (hdC (hdOr o)).toArray, .bool o.isSome]) ∧ ∃ vv mv, CliAt w' base (c.took vv mv L) ∧ CliStep W w' c (c.took vv mv L)) := Lib.hid (fun W hW => certified_any w0 ht c base hb0 hcs hP hlen L hok hL hn sv W (how.trans hW.only) hW.cli (Nat.le_trans hb hW.only.size) (hs.step hW.only (fun _ _ _ _ e => e)) ha)
  obtain ⟨qA, qcap, rfl, hq1, hq2, hq3⟩ := id hq
  have HQ := Lib.hid (And.intro hq hqa)
  have HVS := Lib.hid (And.intro hs ha)
  have HOK := Lib.hid hok
  have HSV := Lib.hid hsv
  have HQOK := Lib.hid hqok
  have hEw : w.heap.size ≤ E := by omega
  clear h0 eE h he hq hqa hs ha hok hsv hqok ht how hpub hq1 hq2 hq3
  obtain ⟨pre, epre⟩ : ∃ v, v = rcPre c.P c.id c.sent c.text e := ⟨_, rfl⟩
  rw [← epre]
  unfold rcPre at epre
  have HPRE := Lib.hid epre
  clear epre
  go_enter Tryz.func30, Tryz.ntmps30
  go_upto_region 1 with (fail)
  rw [← EE.out]
  refine wp_gen (RcS w base E c e) H0.out ?_
  intro Y hY
  have c7 := cli_sent hY.cli.blk
  have HY := Lib.hid hY
  clear hY H0 EE
  have HOUT : Hid (∀ (W : World) (v : Int), RcS w base E c e W → pre = v → v ≠ 0 → pre ≠ 0 ∧ Ending.returned (.int .i64 v) = Ending.returned (.int .i64 pre) ∧ CliAt W base c ∧ CliStep w W c c) := Lib.hid (fun W v hW h1 h2 => by subst h1; exact ⟨h2, rfl, hW.cli, CliStep.nn hW.only⟩)
  obtain ⟨sb, esb⟩ : ∃ sb, sb = c.sent := ⟨_, rfl⟩
  rw [← esb] at HPRE c7
  have ESB := Lib.hid esb
  clear esb
  cases sb with
  | false =>
    have hp : pre = 34 := by rw [HPRE.out, if_pos rfl]
    have HP := Lib.hid hp
    clear hp
    go_wp2_with fail
    go_ret
    exact .inl (HOUT.out _ _ HY.out HP.out (by decide))
  | true =>
    have hp : pre = if verL c.P e ≠ 0 then verL c.P e else if e.who ≠ c.id then 35 else if e.kind ≠ 4 then 35 else if e.text ≠ c.text then 20 else 0 := by rw [HPRE.out, if_neg (by decide)]
    have HP := Lib.hid hp
    clear hp
    go_upto_region 5 with (fail)
    have l1 := (HY.out.none_ ((Only.refl NoneOf Y).drew)).su
    have l2 := (HY.out.none_ ((Only.refl NoneOf Y).drew)).ld HE.out.prev
    go_region_law (first
      | (go_simp; go_at_call 61; refine (HVE.out _ (HY.out.none_ ((Only.refl NoneOf Y).drew))).mono ?_; rintro e1 w1 ⟨rfl, ho1⟩))
    all_goals
      have hY1 := (HY.out.none_ ((Only.refl NoneOf Y).drew)).none_ ho1
      obtain ⟨vr, evr⟩ : ∃ v, v = verL c.P e := ⟨_, rfl⟩
      rw [← evr] at HP ⊢
      have HY1 := Lib.hid hY1
      clear hY1 ho1 l1 l2 c7 evr HVE HY
      by_cases hv : vr = 0
      · subst hv
        have hp1 : pre = if e.who ≠ c.id then 35 else if e.kind ≠ 4 then 35 else if e.text ≠ c.text then 20 else 0 := by rw [HP.out, if_neg (by decide)]
        have HP1 := Lib.hid hp1
        clear hp1 HP
        have k0 := cli_id HY1.out.cli.blk
        have k8 := cli_text HY1.out.cli.blk
        have e1 := HY1.out.ev.cell 1
        have e2 := HY1.out.ev.cell 2
        have e9 := HY1.out.ev.cell 9
        simp only [evC, List.cons_append, List.getElem?_toArray, List.getElem?_cons_zero, List.getElem?_cons_succ] at e1 e2 e9
        obtain ⟨ew, eew⟩ : ∃ x, x = e.who := ⟨_, rfl⟩
        obtain ⟨ek, eek⟩ : ∃ x, x = e.kind := ⟨_, rfl⟩
        obtain ⟨et, eet⟩ : ∃ x, x = e.text := ⟨_, rfl⟩
        obtain ⟨ci, eci⟩ : ∃ x, x = c.id := ⟨_, rfl⟩
        obtain ⟨ct, ect⟩ : ∃ x, x = c.text := ⟨_, rfl⟩
        rw [← eew, ← eek, ← eet, ← eci, ← ect] at HP1
        rw [← eew] at e2
        rw [← eek] at e1
        rw [← eet] at e9
        rw [← eci] at k0
        rw [← ect] at k8
        clear eew eek eet eci ect
        by_cases hw : ew = ci
        · have b1 : (ew == ci) = true := by simpa using hw
          have b1n : (ew != ci) = false := by simp [bne, b1]
          have hp2 : pre = if ek ≠ 4 then 35 else if et ≠ ct then 20 else 0 := by rw [HP1.out, if_neg (by simpa using hw)]
          have HP2 := Lib.hid hp2
          clear hp2 HP1 hw
          by_cases hk : ek = 4
          · subst hk
            have hp3 : pre = if et ≠ ct then 20 else 0 := by rw [HP2.out, if_neg (by decide)]
            have HP3 := Lib.hid hp3
            clear hp3 HP2
            go_upto_region 8 with (fail)
            go_quiet (fail)
            go_upto_region 10 with (fail)
            refine wp_gen (fun W => RcS w base E c e W ∧ W.cell? ⟨E, 9, none⟩ = some (.string et) ∧ W.cell? ⟨c.C, 8, none⟩ = some (.string ct)) ⟨HY1.out.none_ ((Only.refl _ _).drewN _), e9, k8⟩ ?_
            clear e1 e2 k0
            rintro Z ⟨hZ, e9, k8⟩
            have HZ := Lib.hid hZ
            clear hZ HY1
            by_cases htx : et = ct
            · have b3 : (et.toList == ct.toList) = true := by rw [← beq_toListBytes]; exact tx_beq htx
              have hp4 : pre = 0 := by rw [HP3.out, if_neg (by simpa using htx)]
              have HP4 := Lib.hid hp4
              clear hp4 HP3 htx
              go_quiet (fail)
              go_upto_region 12 with (fail)
              refine wp_gen (RcS w base E c e) (HZ.out.none_ ((Only.refl _ _).drewN _)) ?_
              intro Z2 hZ2
              have hce := HCE.out Z2 hZ2
              have hoff : ¬ c.foot E := hZ2.cli.off hZ2.ev (by decide) (by decide) (by decide)
              have HZ2 := Lib.hid hZ2
              have HCE2 := Lib.hid hce
              clear hZ2 hce HZ HCE e9 k8 b3
              go_wp2_with fail
              refine HCE2.out.mono ?_
              rintro e5 w5 ⟨o, hbo, rfl, vv, mv, hc5, hs5⟩
              have hho := best_ok HOK.out hbo
              have hhs := best_small HSV.out hbo
              have hev5 : Blk w5 E tEv (evC e).toArray := HZ2.out.ev.only hs5.1 hoff
              have hs5w : CliStep w w5 c (c.took vv mv L) := (CliStep.nn (c := c) HZ2.out.only).trans hs5
              obtain ⟨n, en⟩ : ∃ n, n = hdOr o := ⟨_, rfl⟩
              rw [← en] at hho hhs ⊢
              have hnl := hho.root
              obtain ⟨c9, ec9⟩ : ∃ c9 : Cli, c9 = c.took vv mv L := ⟨_, rfl⟩
              rw [← ec9] at hc5 hs5w
              have hst := hd_store_nw w5 hnl
              have hnw := hdNew_run
              have ho6 : Only NoneOf w5 ((w5.alloc (.cells hd0C 37)).setCells w5.heap.size 0 (hdC n)) := only_setCells ((Only.refl _ _).alloc _) w5.heap.size 0 (.inr (Nat.le_refl _)) _
              have ha6 : HdAt ((w5.alloc (.cells hd0C 37)).setCells w5.heap.size 0 (hdC n)) w5.heap.size n := filled_whole (Blk.new w5 _ _) (by rw [hdC_len hnl]; rfl)
              obtain ⟨N, eN⟩ : ∃ N, N = w5.heap.size := ⟨_, rfl⟩
              rw [← eN] at ho6 ha6
              have H6 : Hid (RcT w base E N c c9 n e ((w5.alloc (.cells hd0C 37)).setCells N 0 (hdC n))) := Lib.hid ⟨hc5.nn ho6, hs5w.trans (CliStep.nn ho6), ha6, hev5.only ho6 (fun h => h.elim), .inr trivial⟩
              have EN := Lib.hid eN
              have EC9 := Lib.hid ec9
              have EHN := Lib.hid en
              have HBO : Hid (BestL c.P L o) := Lib.hid hbo
              have HHO := Lib.hid hho
              have HHS := Lib.hid hhs
              clear ho6 ha6 eN ec9 en hbo hho hhs hc5 hs5 hs5w hev5 HCE2 HZ2
              go_upto_region 13 with (fail)
              rw [← EN.out]
              refine wp_gen (RcT w base E N c c9 n e) H6.out ?_
              clear H6 EN hst hnw
              intro V hV
              have HV := Lib.hid hV
              clear hV
              have HFIN : Hid (∀ W, RcT w base E N c c9 n e W → rcPost o e Q ≠ 0 → CliAt W base { c.took vv mv L with rc := c.rc || decide (rcPost o e Q = 0) } ∧ CliStep w W c { c.took vv mv L with rc := c.rc || decide (rcPost o e Q = 0) }) := Lib.hid (fun W hW hr => by
                have e0 : ({ c.took vv mv L with rc := c.rc || decide (rcPost o e Q = 0) } : Cli) = c9 := by rw [decide_eq_false hr, Bool.or_false, EC9.out]; rfl
                rw [e0]
                exact ⟨hW.cli, hW.step⟩)
              cases o with
              | none =>
                go_wp2_with fail
                go_ret
                exact .inr ⟨HP4.out, none, HBO.out, rfl, vv, mv, HFIN.out _ HV.out (by show (24 : Int) ≠ 0; decide)⟩
              | some m =>
                have hm : n = m := EHN.out
                obtain ⟨s1, es1, hs1⟩ := HHS.out
                have hpo : rcPost (some m) e Q = if ckP n.root s1 e.seq (evCode e) Q = true then 0 else 41 := by
                  rw [← hm]
                  unfold rcPost
                  simp only [es1, Int.toNat_natCast]
                have HPO := Lib.hid hpo
                obtain ⟨β, eβ⟩ : ∃ β, β = ckP n.root s1 e.seq (evCode e) Q := ⟨_, rfl⟩
                rw [← eβ] at HPO
                have HENC : Hid (∀ W, RcT w base E N c c9 n e W → Calls Tryz.prog 63 #[.agg (evC e).toArray] W (RetStr (evCode e) W)) := Lib.hid (fun W hW => eencode_any e HE.out (by omega) (by omega) W (HTAB.out.none (hW.step.only H.out HHOW.out hb0)))
                have HCK : Hid (∀ (t : ByteArray) W, t.data.toList = evCode e → RcT w base E N c c9 n e W → Calls Tryz.prog 62 #[.agg (hdC n).toArray, .int .i64 e.seq, .string t, .slice qA Q.length qcap] W fun e' w' => e' = .returned (.bool β) ∧ Only NoneOf W w') := Lib.hid (fun t W ht hW => by
                  have h1 := checkpath_any n s1 es1 hs1 HHO.out.root e.seq t (by rw [size_list, ht]; exact evCode_short HE.out (by omega) (by omega)) Q HQOK.out (.slice qA Q.length qcap) W (HQ.out.1.step hW.step.1 (fun a n cap e => HQ.out.2 a n cap e))
                  rw [ht, ← eβ] at h1
                  exact h1)
                clear hm hpo eβ es1
                go_upto_region 15 with (fail)
                have l1 := hd_load (blk_range (HV.out.none_ ((Only.refl NoneOf V).drew)).hd) HHO.out.root
                have l2 := ev_load_at (W := V.drew) (g := E) (o := 0) (e := e) (fun j v hj => by rw [Nat.zero_add, (HV.out.none_ ((Only.refl NoneOf V).drew)).ev.cell]; simpa using hj) HE.out.prev
                have e0 := HV.out.ev.cell 0
                simp only [evC, List.cons_append, List.getElem?_toArray, List.getElem?_cons_zero, List.getElem?_cons_succ] at e0
                go_region_law (first
                  | (go_simp; go_at_call 63; refine (HENC.out _ (HV.out.none_ ((Only.refl NoneOf V).drew))).mono ?_; rintro e7 w7 ⟨t7, rfl, ht7, ho7⟩; have hT7 := (HV.out.none_ ((Only.refl NoneOf V).drew)).none_ ho7; have m1 := hd_load (blk_range hT7.hd) HHO.out.root; have m0 : w7.cell? ⟨E, 0, none⟩ = some (.int .i64 e.seq) := hT7.ev.cell 0)
                  | (go_simp; go_at_call 62; refine (HCK.out _ _ ht7 hT7).mono ?_; rintro e8 w8 ⟨rfl, ho8⟩))
                all_goals
                  have hT8 := hT7.none_ ho8
                  have HT8 := Lib.hid hT8
                  clear hT8 hT7 m1 m0 ho8 ho7 ht7 l1 l2 e0 HENC HCK HV
                  cases β with
                  | true =>
                    have hz : rcPost (some m) e Q = 0 := by rw [HPO.out]; rfl
                    have hC9 : c9.C = c.C := by rw [EC9.out]; rfl
                    have hT := HT8.out
                    have b3 := cli_put_rc hT.cli.blk hT.cli.hok.root true
                    have s3 := cli_rc hT.cli.blk hT.cli.hok.root
                    have f3 := hT.cli.blk.frozen 44
                    have hon : Only (fun k => k = c9.C) w8 (w8.setCell ⟨c9.C, 44, none⟩ (.bool true)) := (Only.refl (fun k => k = c9.C) w8).setCell (p := ⟨c9.C, 44, none⟩) (.inl rfl) _
                    have hfin := hT.cli.recell (c' := { c9 with rc := true }) hon b3 rfl rfl rfl rfl rfl rfl rfl rfl
                    have hst := hT.step.trans (recell_step (c' := { c9 with rc := true }) hon rfl rfl rfl rfl)
                    have ee : ({ c.took vv mv L with rc := c.rc || decide (rcPost (some m) e Q = 0) } : Cli) = { c9 with rc := true } := by rw [decide_eq_true hz, Bool.or_true, EC9.out]
                    rw [← ee] at hfin hst
                    rw [hC9] at s3 f3 hfin hst
                    have HF := Lib.hid (And.intro hfin hst)
                    have HZ9 := Lib.hid hz
                    clear hfin hst ee b3 hon hT hC9 hz
                    go_wp2_with fail
                    go_ret
                    exact .inr ⟨HP4.out, some m, HBO.out, ret_int HZ9.out.symm, vv, mv, HF.out⟩
                  | false =>
                    have hz : rcPost (some m) e Q = 41 := by rw [HPO.out]; rfl
                    have HZ9 := Lib.hid hz
                    clear hz
                    go_wp2_with fail
                    go_ret
                    exact .inr ⟨HP4.out, some m, HBO.out, ret_int HZ9.out.symm, vv, mv, HFIN.out _ HT8.out (by rw [HZ9.out]; decide)⟩
            · have b3 : (et.toList == ct.toList) = false := by rw [← beq_toListBytes]; exact tx_bne htx
              have hp4 : pre = 20 := by rw [HP3.out, if_pos htx]
              have HP4 := Lib.hid hp4
              clear hp4 HP3 htx
              go_quiet (fail)
              go_wp2_with fail
              go_ret
              exact .inl (HOUT.out _ _ (HZ.out.none_ ((Only.refl _ _).drewN _)) HP4.out (by decide))
          · have b2 : (ek == 4) = false := by simpa using hk
            have b2n : (ek != 4) = true := by simp [bne, b2]
            have hp3 : pre = 35 := by rw [HP2.out, if_pos hk]
            have HP3 := Lib.hid hp3
            clear hp3 HP2 hk
            go_upto_region 8 with (fail)
            go_quiet (fail)
            go_wp2_with fail
            go_ret
            exact .inl (HOUT.out _ _ (HY1.out.none_ ((Only.refl _ _).drewN _)) HP3.out (by decide))
        · have b1 : (ew == ci) = false := by simpa using hw
          have b1n : (ew != ci) = true := by simp [bne, b1]
          have hp2 : pre = 35 := by rw [HP1.out, if_pos hw]
          have HP2 := Lib.hid hp2
          clear hp2 HP1 hw
          go_upto_region 8 with (fail)
          go_quiet (fail)
          go_wp2_with fail
          go_ret
          exact .inl (HOUT.out _ _ (HY1.out.none_ ((Only.refl _ _).drewN _)) HP2.out (by decide))
      · have hp1 : pre = vr := by rw [HP.out, if_pos hv]
        have HP1 := Lib.hid hp1
        have HV := Lib.hid hv
        have b0 : (vr == 0) = false := by simpa using hv
        clear hp1 HP hv
        go_wp2_with fail
        go_ret
        exact .inl (HOUT.out _ _ HY1.out HP1.out HV.out)
end Go.Proofs.YtgalfohobgjelaaGreatDoor
