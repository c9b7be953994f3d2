/- What is proved here: where a chain of events breaks off, by the reference. Conditions: names and texts are short. -/
import Derived.Test.YtclpebgjmgfigaaGreatDoorEvS
namespace Go.Proofs.YtclpebgjmgfigaaGreatDoor
open Go.RowKit Go.Shelf
attribute [local go_sem ↓ high] evStore_eq evLoad_eq hLoad_eq hStore_eq
set_option maxRecDepth 100000 in
set_option maxHeartbeats 2000000 in
theorem rchain_any (v : Value) (L : List Ev) (w : World) (hv : EvSl w v L) (hok : EvsOk L) : Calls Tryz.prog 21 #[v] w fun e w' => e = .returned (.tuple #[.int .i64 ((chainL L).1 : Int), .int .i64 (chainL L).2]) ∧ Only NoneOf w w' := by
  obtain ⟨A, cap, rfl, hlc, hcm, hA⟩ := hv
  have hz : Only NoneOf w (w.alloc (.cells (zeros32.map bv).toArray 25)) := (Only.refl _ _).alloc _
  have hs0 : ChS w (.slice A L.length cap) L w.heap.size 0 zeros32 (w.alloc (.cells (zeros32.map bv).toArray 25)) := ⟨Blk.new w _ _, rfl, hz, Nat.zero_le _, Nat.zero_le _, rfl⟩
  have HA := Lib.hid hA
  have HOK := Lib.hid hok
  have HS0 := Lib.hid hs0
  clear hA hok hz hs0
  go_enter Tryz.func21, Tryz.ntmps21
  go_upto_region 2 with (fail)
  refine wp_gen (ChS w (.slice A L.length cap) L w.heap.size 0 zeros32) HS0.out ?_
  intro Y hY
  obtain ⟨b, eb⟩ : ∃ b, b = w.heap.size := ⟨_, rfl⟩
  rw [← eb] at hY ⊢
  have hbw : w.heap.size ≤ b := by omega
  have HY := Lib.hid hY
  clear hY HS0 eb
  go_wp2_with fail
  go_loopw [5] (fun i wr => ∃ (k : Nat) (last : List UInt8), i = .int .i64 k ∧ ChS w (.slice A L.length cap) L b k last wr) (fun i _ => L.length - (intOf i).toNat)
  case atStart => exact ⟨0, zeros32, rfl, HY.out⟩
  case round =>
    obtain ⟨k, last, rfl, hS⟩ := hrel
    have hkl := hS.le
    have hk2 := hS.small
    by_cases hlt : k < L.length
    · obtain ⟨e, he⟩ : ∃ e, L[k]? = some e := ⟨_, List.getElem?_eq_getElem hlt⟩
      obtain ⟨g, o, hA', hg, hr⟩ := HA.out k e he
      subst hA'
      have heok := HOK.out e (List.mem_of_getElem? he)
      have hr2 := range_only hr hS.only
      have hdrop : L.drop k = e :: L.drop (k + 1) := by rw [List.drop_eq_getElem_cons hlt]; rw [List.getElem?_eq_getElem hlt] at he; rw [Option.some.inj he]
      have hstate := hS.state
      rw [hdrop] at hstate
      have hlen := hS.len
      have z0 : wr.cell? ⟨g, o + k * 46, none⟩ = some (.int .i64 e.seq) := hr2 0 _ rfl
      have zh : ∀ q, (hLoad (.pointer (some ⟨g, o + k * 46 + 12, none⟩))).run Tryz.prog (wr.drewN q) = .ok (.agg (e.prev.map bv).toArray) (wr.drewN q) := fun q => h_load (range_part (range_only hr (hS.only.drewN q))) heok.1.prev
      have zb : ∀ q, (hLoad (.pointer (some ⟨b, 0, none⟩))).run Tryz.prog (wr.drewN q) = .ok (.agg (last.map bv).toArray) (wr.drewN q) := fun q => h_load (W := wr.drewN q) (g := b) (o := 0) (l := last) (fun j v hj => by rw [Nat.zero_add, (hS.hash.drewN q).cell]; simpa using hj) hlen
      have zn := fun W => neq_hash e.prev last heok.1.prev hlen W
      have HS := Lib.hid hS
      have HE := Lib.hid heok
      have HR := Lib.hid hr
      have ik : (k : Int) < (L.length : Int) := by omega
      have HLEN := Lib.hid hlen
      clear hS heok hr hr2 hlen hdrop
      by_cases h2 : k = 2000
      · have hres : chainL L = (k, 2) := by rw [hstate, chainGo, if_pos h2]
        have ik2 : (k : Int) = 2000 := by omega
        have HRES := Lib.hid hres
        clear hstate hres zh zb zn z0
        go_wp2_with fail
        go_ret2
        exact ⟨by rw [HRES.out]; simp [h2], HS.out.only⟩
      · have ik2 : ¬ (k : Int) = 2000 := by omega
        have ik3 : ((k : Int) == 2000) = false := beq_eq_false_iff_ne.2 ik2
        by_cases h3 : e.seq = (k : Int)
        · have h3b : (e.seq != (k : Int)) = false := by rw [h3]; simp
          cases h4 : (e.prev == last) with
          | false =>
            have h4' : e.prev ≠ last := fun h => by rw [h] at h4; simp at h4
            have hres : chainL L = (k, 20) := by rw [hstate, chainGo, if_neg h2, if_neg (by rw [h3]; simp), if_pos h4']
            rw [h4] at zn
            simp only [Bool.not_false] at zn
            have HRES := Lib.hid hres
            clear hstate hres h4
            go_upto_region 9 with (fail)
            go_quiet (fail)
            go_wp2_with fail
            go_ret2
            exact ⟨by rw [HRES.out]; rfl, HS.out.only.drewN _⟩
          | true =>
            have h4' : e.prev = last := by simpa using h4
            rw [h4] at zn
            simp only [Bool.not_true] at zn
            have HH4 := Lib.hid h4'
            clear h4 h4'
            go_upto_region 9 with (fail)
            go_quiet (fail)
            clear zn zh zb
            go_upto_region 11 with (fail)
            refine wp_gen (fun Z => ChS w (.slice (some ⟨g, o, none⟩) L.length cap) L b k last Z) ⟨HS.out.hash.drewN _, HS.out.len, HS.out.only.drewN _, HS.out.le, HS.out.small, HS.out.state⟩ ?_
            intro Z hSZ
            have hrZ := range_only HR.out hSZ.only
            have z3 : Z.cell? ⟨g, o + k * 46 + 3, none⟩ = some (.int .i64 e.time) := hrZ 3 _ rfl
            have HSZ := Lib.hid hSZ
            clear hSZ hrZ HS z0
            have hrec : ∀ pt : Int, prevT L k = pt → (0 < k → pt ≤ e.time) → chainL L = chainGo (k + 1) (hashE e) e.time (L.drop (k + 1)) := fun pt hp h => by
              rw [hstate, hp, chainGo_cons (by omega) h3 HH4.out h]
            have herr : ∀ pt : Int, prevT L k = pt → 0 < k → e.time < pt → chainL L = (k, 32) := fun pt hp h0 h => by
              rw [hstate, hp, chainGo, if_neg h2, if_neg (by rw [h3]; simp), if_neg (by rw [HH4.out]; simp), if_pos ⟨h0, h⟩]
            have HREC := Lib.hid hrec
            have HERR := Lib.hid herr
            have H3 := Lib.hid h3
            clear hstate hrec herr h3 h3b
            rcases Nat.eq_zero_or_pos k with hk0 | hk0
            case' inl =>
              have gd : decide ((0 : Int) < (k : Int)) = false := decide_eq_false (by omega)
              have gdn : decide (0 < k) = false := decide_eq_false (by omega)
              have hgo : chainL L = chainGo (k + 1) (hashE e) e.time (L.drop (k + 1)) := HREC.out 0 (by rw [hk0]; rfl) (fun h => by omega)
              have HGO := Lib.hid hgo
              clear hgo hk0
              go_quiet (fail)
            case' inr =>
              obtain ⟨n, hn⟩ : ∃ n, n = k - 1 := ⟨_, rfl⟩
              obtain ⟨p, hp⟩ : ∃ p, L[n]? = some p := ⟨_, List.getElem?_eq_getElem (by omega)⟩
              obtain ⟨g', o', hA2, hg2, hr2⟩ := HA.out n p hp
              obtain ⟨rfl, rfl⟩ : g = g' ∧ o = o' := by simpa using hA2
              have zp : Z.cell? ⟨g, o + n * 46 + 3, none⟩ = some (.int .i64 p.time) := HSZ.out.only.cell_some (hr2 3 _ rfl) (fun e => e)
              have hpt : (prevT L k) = p.time := by
                rw [show k = n + 1 by omega]
                exact prevT_succ hp
              have gd : decide ((0 : Int) < (k : Int)) = true := decide_eq_true (by omega)
              have gdn : decide (0 < k) = true := decide_eq_true (by omega)
              have kw : IntKind.i64.wrap ((k : Int) - 1) = (n : Int) := by rw [show (k : Int) - 1 = (n : Int) by omega]; exact IntWalk.i64_in _ (by omega)
              have n0 : (0 : Int) ≤ (n : Int) := by omega
              have n1 : (n : Int) < (L.length : Int) := by omega
              by_cases hti : e.time < p.time
              · have herr := HERR.out p.time hpt hk0 hti
                have HE2 := Lib.hid herr
                clear herr hp hr2 hA2 hpt hn hg2
                go_quiet (fail)
                go_wp2_with fail
                go_ret2
                exact ⟨by rw [HE2.out]; rfl, HSZ.out.only.drewN _⟩
              have hgo : chainL L = chainGo (k + 1) (hashE e) e.time (L.drop (k + 1)) := HREC.out p.time hpt (fun _ => by omega)
              have hti2 : decide (e.time < p.time) = false := decide_eq_false hti
              have HGO := Lib.hid hgo
              clear hgo hp hr2 hA2 hpt hn hg2 hti
              go_quiet (fail)
            all_goals
              have cldz : ∀ q, (evLoad (.pointer (some ⟨g, o + k * 46, none⟩))).run Tryz.prog (Z.drewN q) = .ok (.agg (evC e).toArray) (Z.drewN q) := fun q => ev_load_at (range_only HR.out (HSZ.out.only.drewN q)) HE.out.1.prev
              go_wp2_with fail
              refine (rhash_any e HE.out.1 HE.out.2.1 HE.out.2.2 _).mono ?_
              unfold hv
              rintro e9 w9 ⟨rfl, ho9⟩
              have hb9 : Blk w9 b 25 (last.map bv).toArray := (HSZ.out.hash.drewN _).only ho9 (fun e => e)
              have hst9 := h_store hb9 HLEN.out (hashE_len e)
              have hnew : ChS w (.slice (some ⟨g, o, none⟩) L.length cap) L b (k + 1) (hashE e) (w9.setCells b 0 ((hashE e).map bv)) := by
                refine ⟨setCells_own hb9 (by simp [HLEN.out, hashE_len]), hashE_len e, only_setCells ((HSZ.out.only.drewN _).trans ho9) _ _ (.inr hbw) _, by omega, by omega, ?_⟩
                rw [prevT_succ he]
                exact HGO.out
              have HNEW := Lib.hid hnew
              clear hb9 hnew ho9 cldz he
              go_wp2_with fail
              go_roundw
              case rel => exact ⟨k + 1, hashE e, by go_num, HNEW.out⟩
              case measure => simp [intOf]; omega
        · have hres : chainL L = (k, 1) := by rw [hstate, chainGo, if_neg h2, if_pos h3]
          have HRES := Lib.hid hres
          clear hstate hres zh zb zn
          go_wp2_with fail
          go_ret2
          exact ⟨by rw [HRES.out]; rfl, HS.out.only⟩
    · obtain rfl : k = L.length := by omega
      have hdrop : L.drop L.length = [] := List.drop_length
      have hres : chainL L = (L.length, 0) := by rw [hS.state, hdrop, chainGo]
      have HRES := Lib.hid hres
      have HO := Lib.hid hS.only
      clear hS hdrop hres
      go_wp2_with fail
      go_ret2
      exact ⟨by rw [HRES.out]; rfl, HO.out⟩
end Go.Proofs.YtclpebgjmgfigaaGreatDoor
