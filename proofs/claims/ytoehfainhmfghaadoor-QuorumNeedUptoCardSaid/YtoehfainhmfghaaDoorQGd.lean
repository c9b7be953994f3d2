/- What is proved here: the votes that count, by their officers, by the program. Conditions: the numbers are ints, roots have 32 bytes, there are few votes and persons; the table of powers of ten reads as its initialiser lays it. -/
import Derived.Test.YtoehfainhmfghaaDoorQGw
import Derived.Test.YtoehfainhmfghaaDoorQLb
import Derived.Laws.EntriesVeiled
namespace Go.Proofs.YtoehfainhmfghaaDoor
open Go.RowKit Go.Shelf
/-- What the loop over the officers keeps. -/
structure GdS (w w1 : World) (b kc : Nat) (O : List Pers) (k : Nat) (W : World) : Prop where
  map : MapV W Tryd.prog 3 b k (keyF (O.take k))
  kb : Blk W kc tKm #[.map (some b)]
  only : Only NoneOf w W
  one : Only (fun j => j = b) w1 W
theorem cell_map_ne {w : World} {P : Program} {k : TypeId} {b n g i : Nat} {f : Value → Option Value} {v : Value} (hm : MapV w P k b n f) (hc : w.cell? ⟨g, i, none⟩ = some v) : g ≠ b := by
  rintro rfl
  obtain ⟨D, ⟨es, clock, hb, _⟩, _⟩ := hm
  simp [World.cell?, hb] at hc
theorem cntO_of {O : List Pers} (hO : O.Pairwise (fun p q => p.id ≠ q.id)) {p : Pers} (hp : p ∈ O) (v : Vt) : (cntO O v && v.who == p.id) = cnts p v := by
  unfold cntO cnts
  cases hw : (v.who == p.id) with
  | false => rw [Bool.and_false]; rfl
  | true =>
    have hw' : v.who = p.id := by simpa using hw
    have hf : O.find? (fun q => q.id == v.who) = some p := by
      clear hw
      induction O with
      | nil => cases hp
      | cons q l ih =>
        rw [List.find?_cons]
        obtain ⟨h1, h2⟩ := List.pairwise_cons.1 hO
        rcases List.mem_cons.1 hp with rfl | hp'
        · simp [hw']
        · have hne : (q.id == v.who) = false := by
            rw [hw']; simpa using h1 p hp'
          rw [hne]
          exact ih h2 hp'
    rw [hf]; simp
set_option maxRecDepth 100000 in
set_option maxHeartbeats 4000000 in
theorem good_any (P : List Pers) (hP : PersOk P) (hlen : P.length ≤ 1000) (pv : Value) (L : List Vt) (hok : VtsOk L) (hL : L.length ≤ 100000) (sv : Value) (w : World) (hp : PerSl w pv P) (hs : VtSl w sv L) (ht : Tab w) :
    Calls Tryd.prog 30 #[setV pv, sv] w fun e w' => ∃ b n f, e = .returned (.map (some b)) ∧ n ≤ 100000 ∧ w.heap.size ≤ b ∧ GrpR w' 3 whoK b n (L.filter (cntO (offs P))) f ∧ Only NoneOf w w' := by
  have hO : PersOk (offs P) := hP.offs
  have hol : (offs P).length ≤ 1000 := Nat.le_trans (offs_len P) hlen
  have hap := offs_apart P
  obtain ⟨O, eO⟩ : ∃ O, O = offs P := ⟨_, rfl⟩
  have hqo : ∀ W, Only NoneOf w W → Calls Tryd.prog 17 #[setV pv] W fun e w' => ∃ ov, e = .returned ov ∧ PerSl w' ov O ∧ Only NoneOf W w' := fun W ho => by rw [eO]; exact qofficers_any P hP hlen pv W (hp.only ho)
  rw [← eO] at hO hol hap ⊢
  unfold setV at hqo ⊢
  obtain ⟨B, eB⟩ : ∃ B, B = w.heap.size := ⟨_, rfl⟩
  obtain ⟨bm, ebm⟩ : ∃ bm, bm = B + 1 := ⟨_, rfl⟩
  obtain ⟨kc, ekc⟩ : ∃ kc, kc = bm + 1 := ⟨_, rfl⟩
  obtain ⟨X, eX⟩ : ∃ X, X = ((w.alloc (.cells #[pv, .int .i64 0, .slice none 0 0, .slice none 0 0, .int .i64 0, .int .i64 0] 30)).alloc (.map #[] 0)).alloc (.cells #[.map (some bm)] 82) := ⟨_, rfl⟩
  have x1 : MapV X Tryd.prog 3 bm 0 (keyF []) := by
    have h1 := MapV.made (w.alloc (.cells #[pv, .int .i64 0, .slice none 0 0, .slice none 0 0, .int .i64 0, .int .i64 0] 30)) Tryd.prog 3
    rw [World.size_alloc, ← eB, ← ebm] at h1
    rw [eX]; exact h1.only ((Only.refl NoneOf _).alloc _) (fun e => e)
  have x2 : Blk X kc tKm #[.map (some bm)] := by
    have h2 := Blk.new ((w.alloc (.cells #[pv, .int .i64 0, .slice none 0 0, .slice none 0 0, .int .i64 0, .int .i64 0] 30)).alloc (.map #[] 0)) tKm #[.map (some bm)]
    rw [World.size_alloc, World.size_alloc, ← eB, ← ebm, ← ekc] at h2
    rw [eX]; exact h2
  have x3 : Only NoneOf w X := by rw [eX]; exact (((Only.refl _ _).alloc _).alloc _).alloc _
  have x0 : X.cell? ⟨B, 0, none⟩ = some pv ∧ X.cell? ⟨B, 1, none⟩ = some (.int .i64 0) ∧ X.cell? ⟨B, 2, none⟩ = some (.slice none 0 0) ∧ X.cell? ⟨B, 3, none⟩ = some (.slice none 0 0) ∧ X.cell? ⟨B, 4, none⟩ = some (.int .i64 0) ∧ X.cell? ⟨B, 5, none⟩ = some (.int .i64 0) := by
    have h3 : Blk X B 30 #[pv, .int .i64 0, .slice none 0 0, .slice none 0 0, .int .i64 0, .int .i64 0] := by rw [eX, eB]; exact ((Blk.new w _ _).alloc _).alloc _
    exact ⟨h3.cell 0, h3.cell 1, h3.cell 2, h3.cell 3, h3.cell 4, h3.cell 5⟩
  have hwb : w.heap.size ≤ bm := by omega
  have X0 := Lib.hid x0
  have X1 := Lib.hid x1
  have X2 := Lib.hid x2
  have X3 := Lib.hid x3
  have EX := Lib.hid eX
  have EB := Lib.hid eB
  have EBM := Lib.hid ebm
  have EKC := Lib.hid ekc
  have HQO := Lib.hid hqo
  have HPO := Lib.hid hO
  have HOK := Lib.hid hok
  have HSV := Lib.hid hs
  have HT := Lib.hid ht
  have HAP := Lib.hid hap
  clear x0 x1 x2 x3 eX eB ebm ekc hqo hO hok hs ht hap hp hP eO hlen
  have hmm := @run_makeMap Tryd.prog
  go_enter Tryd.func30, Tryd.ntmps30
  go_upto_region 2 with (fail)
  rw [← EB.out, ← EBM.out, ← EKC.out, ← EX.out]
  clear hmm
  obtain ⟨x0, xa, xb, xc, xd, xe⟩ := X0.out
  go_wp2_with fail
  refine (HQO.out _ X3.out).mono ?_
  rintro e1 w1 ⟨ov, rfl, hov, ho1⟩
  obtain ⟨A, cap, rfl, hlc, hcm, hA⟩ := hov
  have hs0 : GdS w w1 bm kc O 0 w1 := ⟨X1.out.only ho1 (fun e => e), X2.out.only ho1 (fun e => e), X3.out.trans ho1, Only.refl _ _⟩
  have HS0 := Lib.hid hs0
  have HA := Lib.hid hA
  clear hs0 hA ho1 x0 xa xb xc xd xe
  go_wp2_with fail
  go_loopw [7, 13] (fun _ i wr => ∃ k : Nat, i = .int .i64 k ∧ k ≤ O.length ∧ GdS w w1 bm kc O k wr) (fun _ i _ => O.length - (intOf i).toNat)
  case atStart => exact ⟨0, rfl, Nat.zero_le _, HS0.out⟩
  case round =>
    obtain ⟨k, rfl, hk, hS⟩ := hrel
    by_cases hlt : k < O.length
    · obtain ⟨p, hp⟩ : ∃ p, O[k]? = some p := ⟨_, List.getElem?_eq_getElem hlt⟩
      obtain ⟨g, o, hA', hg, hr⟩ := HA.out k p hp
      subst hA'
      have hpo := HPO.out p (List.mem_of_getElem? hp)
      have d0 : w1.cell? ⟨g, o + k * 3, none⟩ = some (.int .i64 p.id) := hr 0 _ rfl
      have hgb : g ≠ bm := cell_map_ne HS0.out.map d0
      have c0 : wr.cell? ⟨g, o + k * 3, none⟩ = some (.int .i64 p.id) := hS.one.cell_some d0 hgb
      have c1 : wr.cell? ⟨g, o + k * 3 + 1, none⟩ = some (.int .i64 p.role) := hS.one.cell_some (hr 1 _ rfl) hgb
      have c2 : wr.cell? ⟨g, o + k * 3 + 2, none⟩ = some (.int .i64 p.pub) := hS.one.cell_some (hr 2 _ rfl) hgb
      have ck : ∀ o, (wr.alloc o).cell? ⟨kc, 0, none⟩ = some (.map (some bm)) := fun o => (hS.kb.alloc o).cell 0
      have ik : (k : Int) < (O.length : Int) := by omega
      have htk : O.take (k + 1) = O.take k ++ [p] := by rw [List.take_add_one, hp, Option.toList_some]
      have hne : ∀ q ∈ O.take k, q.id ≠ p.id := fun q hq => by
        obtain ⟨i, hi⟩ := List.getElem?_of_mem hq
        have hi2 : i < k := by
          have := (List.getElem?_eq_some_iff.1 hi).1
          rw [List.length_take] at this; omega
        rw [List.getElem?_take, if_pos hi2] at hi
        have hi3 := (List.getElem?_eq_some_iff.1 hi)
        have hk3 := (List.getElem?_eq_some_iff.1 hp)
        have := List.pairwise_iff_getElem.1 HAP.out i k hi3.1 hk3.1 hi2
        rw [hi3.2, hk3.2] at this
        exact this
      have hckb : kc ≠ bm := by have := EKC.out; omega
      have hm1 : ∀ o, MapV (wr.alloc o) Tryd.prog 3 bm k (keyF (O.take k)) := fun o => hS.map.only ((Only.refl NoneOf _).alloc o) (fun e => e)
      have HM1 := Lib.hid hm1
      have HKEY := Lib.hid (key_int hpo.id)
      have HS := Lib.hid hS
      have HTK := Lib.hid htk
      have HNE := Lib.hid hne
      clear hS htk hne hr hm1 d0 hp
      go_wp2_with (first
        | (at_mapUpdate; refine wpList_put _ rfl _ _ _ 82 rfl 3 3 int_law Tryd.underlying82 bm k _ rfl (HM1.out _) (by rw [maxLen_val]; omega) _ _ _ rfl rfl HKEY.out ?_; intro w2 hown2 hgrow2))
      have hnew : GdS w w1 bm kc O (k + 1) w2 := by
        refine ⟨?_, (HS.out.kb.alloc _).grown hgrow2 (fun e => hckb (Option.some.inj e)), (HS.out.only.alloc _).grown hgrow2 (fun j e => by cases e; exact .inr hwb), (HS.out.one.alloc _).grown hgrow2 (fun j e => by cases e; exact .inl rfl)⟩
        rw [HTK.out]
        exact hown2.congr (keyF_put HNE.out)
      have HNEW := Lib.hid hnew
      clear hown2 hgrow2 hnew c0 c1 c2 ck
      go_roundw
      case rel => exact ⟨k + 1, by go_num, by omega, HNEW.out⟩
      case measure => simp [intOf]; omega
    · obtain rfl : k = O.length := by omega
      have hmp := hS.map
      rw [List.take_length] at hmp
      have hkb := hS.kb
      have hO := hS.only
      obtain ⟨cc, ecc⟩ : ∃ cc, cc = wr.heap.size := ⟨_, rfl⟩
      obtain ⟨V, eV⟩ : ∃ V, V = wr.alloc (.cells #[.func (.func 44) #[] #[.pointer (some ⟨kc, 0, none⟩)]] 85) := ⟨_, rfl⟩
      have hVo : Only NoneOf wr V := by rw [eV]; exact (Only.refl _ _).alloc _
      have hVk : KeyS V O kc cc bm O.length := ⟨hmp.only hVo (fun e => e), hkb.only hVo (fun e => e), by rw [eV, ecc]; exact Blk.new wr _ _, HT.out.none (hO.trans hVo)⟩
      have HV := Lib.hid hVo
      have HVK := Lib.hid hVk
      have HO := Lib.hid hO
      have ECC := Lib.hid ecc
      have EV := Lib.hid eV
      clear hS hmp hkb hO hVo hVk ecc eV
      go_upto_region 8 with (fail)
      rw [← ECC.out, ← EV.out]
      go_wp2_with fail
      refine (clone_any L HOK.out hL sv V (HSV.out.only (HO.out.trans HV.out))).mono ?_
      rintro e2 w2 ⟨rv, rfl, hown2, ho2⟩
      have HOWN2 := Lib.hid hown2
      have HO2 := Lib.hid ho2
      clear hown2 ho2
      go_wp2_with fail
      refine (delfunc_any O HPO.out L HOK.out hL rv kc cc bm O.length V w2 (HT.out.none (HO.out.trans HV.out)) HO2.out HOWN2.out (HVK.out.only HO2.out)).mono ?_
      rintro e3 w3 ⟨dv, rfl, hown3, ho3⟩
      have hok3 : VtsOk (L.filter (cntO O)) := fun x hx => HOK.out x (List.mem_filter.1 hx).1
      have hl3 : (L.filter (cntO O)).length ≤ 100000 := Nat.le_trans (List.length_filter_le _ _) hL
      have hsl3 : VtSl w3 dv (L.filter (cntO O)) := VtOwn.sl hown3 hok3
      have HSL3 := Lib.hid hsl3
      have HOK3 := Lib.hid hok3
      have HO3 := Lib.hid ho3
      clear hown3 ho3 hok3 hsl3
      go_wp2_with fail
      refine (gwho_any (L.filter (cntO O)) HOK3.out hl3 dv w3 HSL3.out).mono ?_
      rintro e4 w4 ⟨b4, n4, f4, rfl, hn4, hb4, hr4, ho4⟩
      have hwb4 : w.heap.size ≤ b4 := Nat.le_trans ((HO.out.trans HV.out).trans HO3.out).size hb4
      have HR4 := Lib.hid hr4
      have HO4 := Lib.hid (((HO.out.trans HV.out).trans HO3.out).trans ho4)
      clear hr4 ho4
      go_wp2_with fail
      go_ret
      exact ⟨b4, n4, f4, rfl, hn4, hwb4, HR4.out, HO4.out⟩
end Go.Proofs.YtoehfainhmfghaaDoor
