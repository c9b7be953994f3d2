/- What is proved here: votes are grouped by who votes, by the program. Conditions: the votes' numbers are ints, their roots have 32 bytes, there are few. -/
import Derived.Test.YtoehfainhmfghaaDoorQGr
namespace Go.Proofs.YtoehfainhmfghaaDoor
open Go.RowKit Go.Shelf
open Go.Maps (Keyed)
attribute [local go_sem ↓ high] vtLoad_eq vtNew_eq vtStore_eq vtBs1_eq
def whoK (v : Vt) : Value := .int .i64 v.who
theorem whoK_key {v : Vt} (vo : v.Ok) : ∃ kl, Go.keyOf Tryd.prog 3 (whoK v) = some kl := ⟨_, key_int vo.who⟩
theorem zero_vts_whoK (w : World) : (zeroValue 36).run Tryd.prog w = .ok (.slice none 0 0) w := by kernel_rfl
set_option maxRecDepth 100000 in
set_option maxHeartbeats 4000000 in
theorem gwho_any (L : List Vt) (hok : VtsOk L) (hlen : L.length ≤ 100000) (sv : Value) (w : World) (hs : VtSl w sv L) :
    Calls Tryd.prog 49 #[sv, .func (.func 50) #[] #[]] w fun e w' => ∃ b n f, e = .returned (.map (some b)) ∧ n ≤ 100000 ∧ w.heap.size ≤ b ∧ GrpR w' 3 whoK b n L f ∧ Only NoneOf w w' := by
  obtain ⟨ie, z, hie, hsz, hz, hzc, hby⟩ := vt_info
  obtain ⟨A, cap, rfl, hlc, hcm, hA⟩ := hs
  obtain ⟨b, eb⟩ : ∃ b, b = w.heap.size := ⟨_, rfl⟩
  have hs0 : GrpO w 3 whoK b 0 [] (fun _ => none) (w.alloc (.map #[] 0)) := by
    refine ⟨by rw [eb]; exact MapV.made w Tryd.prog 3, fun x => ⟨fun _ v h => (by cases h), fun _ => rfl⟩, fun x sl h => (by cases h), fun x y s s' h => (by cases h), (Only.refl _ _).alloc _⟩
  have HS0 := Lib.hid hs0
  have HA := Lib.hid hA
  have HOK := Lib.hid hok
  have HIE := Lib.hid hie
  have HSZ := Lib.hid hsz
  have HZ := Lib.hid hz
  have HZC := Lib.hid hzc
  have HBY := Lib.hid hby
  have HEB := Lib.hid eb
  have hwb : w.heap.size ≤ b := by omega
  clear hs0 hA hok hie hsz hz hzc hby eb
  have hmm := @run_makeMap Tryd.prog
  go_enter Tryd.func49, Tryd.ntmps49
  go_upto_region 2 with (fail)
  rw [← HEB.out]
  refine wp_gen (GrpO w 3 whoK b 0 [] (fun _ => none)) HS0.out ?_
  intro Y hY
  have HY := Lib.hid hY
  clear hY HS0 hmm
  go_wp2_with fail
  go_loopw [7, 11] (fun _ i wr => ∃ (k : Nat) (f : Value → Option Value), i = .int .i64 k ∧ k ≤ L.length ∧ GrpO w 3 whoK b k (L.take k) f wr) (fun _ i _ => L.length - (intOf i).toNat)
  case atStart => exact ⟨0, _, rfl, Nat.zero_le _, HY.out⟩
  case round =>
    obtain ⟨k, f, rfl, hk, hS⟩ := hrel
    by_cases hlt : k < L.length
    · obtain ⟨v, hv⟩ : ∃ v, L[k]? = some v := ⟨_, List.getElem?_eq_getElem hlt⟩
      obtain ⟨g, o, hA', hg, hr⟩ := HA.out k v hv
      subst hA'
      have vo := HOK.out v (List.mem_of_getElem? hv)
      have hl := vo.head.root
      have hld := vt_load (rng_only hr hS.only) hl
      have hnw := vtNew_run
      obtain ⟨N, eN⟩ : ∃ N, N = wr.heap.size := ⟨_, rfl⟩
      have hb0 : Blk (wr.alloc (.cells vt0C 40)) N tVt vt0C := by rw [eN]; exact Blk.new wr _ _
      have hst := vt_store hb0 rfl hl
      rw [eN] at hst
      have hb1 : VtAt ((wr.alloc (.cells vt0C 40)).setCells N 0 (vtC v)) N v := filled_whole hb0 (by rw [vtC_len hl]; rfl)
      have hO1 : Only NoneOf wr ((wr.alloc (.cells vt0C 40)).setCells N 0 (vtC v)) := only_setCells ((Only.refl _ _).alloc _) N 0 (.inr (by omega)) _
      have htk : L.take (k + 1) = L.take k ++ [v] := by rw [List.take_add_one, hv, Option.toList_some]
      have ik : (k : Int) < (L.length : Int) := by omega
      have hvN : ∀ g0, (slAt f (whoK v)).ownBlock = some g0 → w.heap.size ≤ g0 ∧ g0 < N := fun g0 h0 => by rw [eN]; exact hS.lt _ g0 h0
      obtain ⟨kl, hkl⟩ := whoK_key vo
      have HS := Lib.hid hS
      have HVO := Lib.hid vo
      have HB1 := Lib.hid hb1
      have HO1 := Lib.hid hO1
      have EN := Lib.hid eN
      have HTK := Lib.hid htk
      have HVN := Lib.hid hvN
      have HKL := Lib.hid hkl
      have hNw : w.heap.size ≤ N := by have := hS.only.size; omega
      clear hS hv vo hb0 hb1 hO1 eN htk hvN hkl hr
      go_upto_region 5 with (fail)
      rw [← EN.out]
      refine wp_gen (fun Z => VtAt Z N v ∧ GrpO w 3 whoK b k (L.take k) f Z) ⟨HB1.out, HS.out.keep HO1.out⟩ ?_
      rintro Z ⟨hzb, hzs⟩
      clear hld hst hnw
      obtain ⟨v0, ev0⟩ : ∃ v0, v0 = slAt f (whoK v) := ⟨_, rfl⟩
      obtain ⟨m, em⟩ : ∃ m, m = (grp whoK (L.take k) (whoK v)).length := ⟨_, rfl⟩
      obtain ⟨C, eC⟩ : ∃ C, C = (grp whoK (L.take k) (whoK v)).flatMap vtC := ⟨_, rfl⟩
      have hml : m ≤ 100000 := by rw [em]; exact Nat.le_trans (grp_len _ _ _) (Nat.le_trans (List.length_take_le _ _) (by omega))
      have hS0 : GrS w N v Z.drew := ⟨Blk.drew hzb, hzs.only.drew⟩
      have hG0 : GrpO w 3 whoK b k (L.take k) f Z.drew := hzs.keep (Only.refl _ _).drew
      have hld2 : ∀ W, GrS w N v W → (vtLoad (.pointer (some ⟨N, 0, none⟩))).run Tryd.prog W = .ok (.agg (vtC v).toArray) W := fun W h => vt_load (blk_range h.at_) hl
      have hlk : ∀ W, GrpO w 3 whoK b k (L.take k) f W → (Instr.lookup 64 (.map (some b)) (.int .i64 v.who) false).run Tryd.prog W = .ok v0 W := fun W h => by
        rw [ev0]
        exact h.map.look int_law Tryd.underlying64 (zero_vts_whoK _) HKL.out
      have hgal : ∀ (W : World) o, GrpO w 3 whoK b k (L.take k) f W.drew → GrpO w 3 whoK b k (L.take k) f (W.alloc o).drew := fun W o h => GrpO.keep (W := W.drew) (W' := (W.alloc o).drew) h ((Only.refl _ W.drew).alloc o)
      have hgal2 : ∀ (W : World) o, GrpO w 3 whoK b k (L.take k) f W → GrpO w 3 whoK b k (L.take k) f (W.alloc o) := fun W o h => h.keep ((Only.refl _ W).alloc o)
      have hbs := bs1_run v hl
      have hmu : ∀ W sl, AppD w 3 whoK b k (L.take k) f v sl W → (Instr.mapUpdate 64 (.map (some b)) (.int .i64 v.who) sl).run Tryd.prog W = .ok () (mapPut Tryd.prog 64 b (whoK v) sl W) := fun W sl h => (h.fin HS.out int_law Tryd.underlying64 (by rw [maxLen_val]; omega) HKL.out hwb).1
      have HCB : Hid (∀ W, Calls Tryd.prog 50 #[.agg (vtC v).toArray] W fun e w' => e = .returned (.int .i64 v.who) ∧ Only NoneOf W w') := Lib.hid (fun W => by have vo := HVO.out; exact qwho_any v W)
      have HSK : Hid (∀ W W', GrS w N v W → Only NoneOf W W' → GrS w N v W') := Lib.hid (fun W W' h ho => ⟨Blk.only h.at_ ho (fun e => e), h.only.trans ho⟩)
      have HSA : Hid (∀ (W : World) o, GrS w N v W.drew → GrS w N v (W.alloc o).drew) := Lib.hid (fun W o h => ⟨Blk.alloc (w := W.drew) h.at_ o, (h.only).trans ((Only.refl _ W.drew).alloc o)⟩)
      have HSA2 : Hid (∀ (W : World) o, GrS w N v W → GrS w N v (W.alloc o)) := Lib.hid (fun W o h => ⟨Blk.alloc h.at_ o, h.only.alloc o⟩)
      have HGK : Hid (∀ W W', GrpO w 3 whoK b k (L.take k) f W → Only NoneOf W W' → GrpO w 3 whoK b k (L.take k) f W') := Lib.hid (fun W W' h ho => h.keep ho)
      have HAK : Hid (∀ W W' sl, AppD w 3 whoK b k (L.take k) f v sl W → Only NoneOf W W' → AppD w 3 whoK b k (L.take k) f v sl W') := Lib.hid (fun W W' sl h ho => h.keep ho)
      have HOW : Hid (∀ W, GrpO w 3 whoK b k (L.take k) f W → W.ownsRow w.heap.size 40 36 v0 m C) := Lib.hid (fun W h => by rw [ev0, em, eC]; exact h.at_ _)
      have HAP : Hid (∀ W w1 g cap, GrpO w 3 whoK b k (L.take k) f W → w1.ownsRow w.heap.size 40 36 (.slice (some ⟨g, 0, none⟩) (m + 1) cap) (m + 1) (C ++ vtC v) → W.grownBy w1 v0.ownBlock → (v0.ownBlock = some g ∨ g = W.heap.size) → AppD w 3 whoK b k (L.take k) f v (.slice (some ⟨g, 0, none⟩) (m + 1) cap) w1) := Lib.hid (fun W w1 g cap h h1 h2 h3 => by
        rw [em, eC] at h1; rw [ev0] at h2 h3; rw [em]; exact h.append h1 h2 h3)
      have HSP : Hid (∀ W w1, GrS w N v W → W.grownBy w1 v0.ownBlock → GrS w N v w1) := Lib.hid (fun W w1 h hg => ⟨Blk.grown h.at_ hg (fun e => by have := (HVN.out N (by rw [← ev0]; exact e.symm)).2; omega), h.only.grown hg (fun j e => .inr (HVN.out j (by rw [← ev0]; exact e)).1)⟩)
      have HSM : Hid (∀ W sl, AppD w 3 whoK b k (L.take k) f v sl W → GrS w N v W → GrS w N v (mapPut Tryd.prog 64 b (whoK v) sl W)) := Lib.hid (fun W sl h hs => by
        obtain ⟨_, h2, h3⟩ := h.fin HS.out int_law Tryd.underlying64 (by rw [maxLen_val]; omega) HKL.out hwb
        refine ⟨Blk.grown hs.at_ h3 (fun e => ?_), h2.only⟩
        have : N = b := Option.some.inj e
        subst this
        obtain ⟨D, ⟨es, clock, hb9, _⟩, _⟩ := h.map
        have := hs.at_
        unfold VtAt Blk at this
        rw [this] at hb9; cases hb9)
      have HFIN : Hid (∀ W sl, AppD w 3 whoK b k (L.take k) f v sl W → GrpO w 3 whoK b (k + 1) (L.take (k + 1)) (put1 f (whoK v) sl) (mapPut Tryd.prog 64 b (whoK v) sl W)) := Lib.hid (fun W sl h => by
        rw [HTK.out]; exact (h.fin HS.out int_law Tryd.underlying64 (by rw [maxLen_val]; omega) HKL.out hwb).2.1)
      have HWN : Hid (∀ W, GrS w N v W → w.heap.size ≤ W.heap.size) := Lib.hid (fun W h => h.only.size)
      have HCM : Hid (C.length = m * 36) := Lib.hid (by rw [em, eC]; exact vts_len _ (grp_ok (fun x hx => HOK.out x (List.mem_of_mem_take hx)) _))
      clear hzb hzs hl ev0 em eC
      go_region_held3 (fun w' => GrS w N v w') (first | (with_reducible assumption) | (with_reducible exact HSA.out _ _ (by with_reducible assumption)) | (with_reducible exact HSA2.out _ _ (by with_reducible assumption)) | (with_reducible exact HSM.out _ _ (by with_reducible assumption) (by with_reducible assumption)))
        (first
          | (refine step_append_lies _ (by rfl) _ _ _ (by rfl) w.heap.size 40 ie z 36 ie.bytes Tryd.underlying36 HIE.out HZ.out HSZ.out rfl HZC.out (by omega) v0 m C (by rfl) (HOW.out _ (by first | (with_reducible assumption) | (with_reducible exact hgal _ _ (by with_reducible assumption)) | (with_reducible exact hgal2 _ _ (by with_reducible assumption)))) _ 1 1 (vtC v) (by rfl) (by rw [vtC_len HVO.out.head.root]) (World.news_of_block (cs := (vtC v).toArray) (t := 40) (fr := (0, 0)) (by first | exact (show NewB _ v _ from by with_reducible assumption) | exact (NewB.new _ v) | exact (NewB.newd _ v))) (vtC_one v) (by omega) (by rw [maxLen_val]; omega) (by have := HBY.out; exact Nat.le_trans (Nat.mul_le_mul (show m + 1 ≤ 100001 by omega) this) (by omega)) (HWN.out _ (by first | (with_reducible assumption) | (with_reducible exact HSA.out _ _ (by with_reducible assumption)) | (with_reducible exact HSA2.out _ _ (by with_reducible assumption)))) _ rfl ?_; intro g2 cap2 w2 hown2 hgrow2 hat2 hlt2; have hS2 := HSP.out _ w2 (by first | (with_reducible assumption) | (with_reducible exact HSA.out _ _ (by with_reducible assumption)) | (with_reducible exact HSA2.out _ _ (by with_reducible assumption))) hgrow2; have hAD := HAP.out _ w2 g2 cap2 (by first | (with_reducible assumption) | (with_reducible exact hgal _ _ (by with_reducible assumption)) | (with_reducible exact hgal2 _ _ (by with_reducible assumption))) hown2 hgrow2 hat2; clear hown2 hgrow2 hat2 hlt2)
          | (go_at_call 50; refine (HCB.out _).mono ?_; rintro e5 w5 ⟨rfl, ho5⟩; have hS5 := HSK.out _ _ (by first | (with_reducible assumption) | (with_reducible exact HSA.out _ _ (by with_reducible assumption)) | (with_reducible exact HSA2.out _ _ (by with_reducible assumption))) ho5; (first | (have hA5 := HAK.out _ _ _ (by with_reducible assumption) ho5) | (have hG5 := HGK.out _ _ (by first | (with_reducible assumption) | (with_reducible exact hgal _ _ (by with_reducible assumption)) | (with_reducible exact hgal2 _ _ (by with_reducible assumption))) ho5)); (first | (have hN5 := NewB.keep (by with_reducible assumption) ho5) | (have hN5 := NewB.keep (NewB.new _ v) ho5) | (have hN5 := NewB.keep (NewB.newd _ v) ho5) | skip); clear ho5))
      all_goals
        have hnew := HFIN.out _ _ (by with_reducible assumption)
        have HNEW := Lib.hid hnew
        clear hnew hld2 hlk hgal hgal2 hbs hmu hS0 hG0
        go_wp2_with fail
        go_roundw
        case rel => exact ⟨k + 1, _, by go_num, by omega, HNEW.out⟩
        case measure => simp [intOf]; omega
    · obtain rfl : k = L.length := by omega
      have hall : L.take L.length = L := List.take_length
      rw [hall] at hS
      have HR := Lib.hid (hS.read HOK.out)
      have HO := Lib.hid hS.only
      clear hS hall
      go_wp2_with fail
      go_ret
      exact ⟨b, L.length, f, rfl, hlen, hwb, HR.out, HO.out⟩
end Go.Proofs.YtoehfainhmfghaaDoor
