/- What is proved here: where a chain of events breaks off, by the program. Conditions: names and texts are short; the table of powers of ten reads as its initialiser lays it. -/
import Derived.Test.YtclpebgjmgfigaaGreatDoorEvI
import Derived.Test.YtclpebgjmgfigaaGreatDoorEvB
import Derived.BigQuiet
import Derived.Deep.QuietTactic
namespace Go.Proofs.YtclpebgjmgfigaaGreatDoor
open Go.RowKit Go.Shelf
/-- A slice that reads as these events. -/
def EvSl (w : World) (v : Value) (L : List Ev) : Prop :=
  ∃ A cap, v = .slice A L.length cap ∧ L.length ≤ cap ∧ cap ≤ 9223372036854775807 ∧ ∀ (i : Nat) (e : Ev), L[i]? = some e → ∃ g o, A = some ⟨g, o, none⟩ ∧ g < w.heap.size ∧ w.rangeAt g (o + i * 46) (evC e)
/-- These events are sound and short. -/
def EvsOk (L : List Ev) : Prop := ∀ e ∈ L, e.Ok ∧ e.name.size ≤ 8796093022208 ∧ e.text.size ≤ 8796093022208
theorem range_only {w w' : World} {g o : Nat} {cs : List Value} (h : w.rangeAt g o cs) (ho : Only NoneOf w w') : w'.rangeAt g o cs := fun j v hj => ho.cell_some (h j v hj) (fun e => e)
theorem EvSl.only {w w' : World} {v : Value} {L : List Ev} (h : EvSl w v L) (ho : Only NoneOf w w') : EvSl w' v L := by
  obtain ⟨A, cap, hv, h1, h2, h3⟩ := h
  refine ⟨A, cap, hv, h1, h2, fun i e he => ?_⟩
  obtain ⟨g, o, hA, hg, hr⟩ := h3 i e he
  exact ⟨g, o, hA, Nat.lt_of_lt_of_le hg ho.size, range_only hr ho⟩
/-- A hash read, under a name that the walk does not open. -/
def hLoad (v : Value) : Sem Value := Instr.loadAt 25 v
theorem hLoad_eq (v : Value) : Instr.loadAt 25 v = hLoad v := rfl
def hStore (p v : Value) : Sem Unit := Instr.storeAt 25 p v
theorem hStore_eq (p v : Value) : Instr.storeAt 25 p v = hStore p v := rfl
attribute [local go_sem ↓ high] evStore_eq evLoad_eq hLoad_eq hStore_eq
theorem h_load {W : World} {g o : Nat} {l : List UInt8} (h : W.rangeAt g o (l.map bv)) (hl : l.length = 32) : (hLoad (.pointer (some ⟨g, o, none⟩))).run Tryz.prog W = .ok (.agg (l.map bv).toArray) W :=
  run_loadAt_mid W g o 25 (l.map bv) _ h Tryz.underlying25 rfl (by rw [List.length_map, hl]; kernel_rfl)
theorem h_store {W : World} {g : Nat} {l m : List UInt8} (h : Blk W g 25 (l.map bv).toArray) (hl : l.length = 32) (hm : m.length = 32) : (hStore (.pointer (some ⟨g, 0, none⟩)) (.agg (m.map bv).toArray)).run Tryz.prog W = .ok () (W.setCells g 0 (m.map bv)) :=
  run_storeAt_mid (P := Tryz.prog) W g 0 25 (m.map bv).toArray (h.there 0 _ (by simp [hl, hm])) (by rw [List.size_toArray, List.length_map, hm]; kernel_rfl) (all_oneCell_toArray (bvs_one _))
theorem ev_load_at {W : World} {g o : Nat} {e : Ev} (h : W.rangeAt g o (evC e)) (hp : e.prev.length = 32) : (evLoad (.pointer (some ⟨g, o, none⟩))).run Tryz.prog W = .ok (.agg (evC e).toArray) W :=
  run_loadAt_mid W g o 29 (evC e) _ h Tryz.underlying29 rfl (by rw [evC_len hp]; kernel_rfl)
theorem neq_hash (xs ys : List UInt8) (hx : xs.length = 32) (hy : ys.length = 32) (w : World) : (binOp .neq 25 (.agg (xs.map bv).toArray) (.agg (ys.map bv).toArray)).run Tryz.prog w = .ok (.bool (!(xs == ys))) w := by
  have h : (Op.equalIn 10000 25 (.agg (xs.map bv).toArray) (.agg (ys.map bv).toArray)).run Tryz.prog w = .ok (xs == ys) w := run_equalIn_bytes w 9998 25 5 32 Tryz.underlying25 Tryz.underlying5 size_u8 xs ys hx hy
  rw [run_neq_struct, h]
  rfl
theorem range_part {W : World} {g o : Nat} {e : Ev} (h : W.rangeAt g o (evC e)) : W.rangeAt g (o + 12) (e.prev.map bv) := fun j v hj => by
  have h1 := h (12 + j) v (by
    unfold evC
    rw [List.getElem?_append_right (by simp), List.getElem?_append_left (by simp; have := (List.getElem?_eq_some_iff.1 hj).1; simpa using this)]
    simpa using hj)
  rw [show o + 12 + j = o + (12 + j) by omega]
  exact h1
/-- The time of the event before number k. -/
def prevT (L : List Ev) : Nat → Int
  | 0 => 0
  | n + 1 => match L[n]? with
    | some e => e.time
    | none => 0
theorem prevT_succ {L : List Ev} {n : Nat} {p : Ev} (h : L[n]? = some p) : prevT L (n + 1) = p.time := by simp only [prevT, h]
/-- What the loop keeps. -/
structure ChS (w : World) (v : Value) (L : List Ev) (b k : Nat) (last : List UInt8) (W : World) : Prop where
  hash : Blk W b 25 (last.map bv).toArray
  len : last.length = 32
  only : Only NoneOf w W
  le : k ≤ L.length
  small : k ≤ 2000
  state : chainL L = chainGo k last (prevT L k) (L.drop k)
set_option maxRecDepth 100000 in
set_option maxHeartbeats 1000000 in
theorem echain_any (v : Value) (L : List Ev) (w : World) (hv : EvSl w v L) (hok : EvsOk L) (ht : Tab w) : Calls Tryz.prog 20 #[v] w fun e w' => e = .returned (.tuple #[.int .i64 ((chainL L).1 : Int), .int .i64 (chainL L).2]) ∧ Only NoneOf w w' := by
  obtain ⟨A, cap, rfl, hlc, hcm, hA⟩ := hv
  have hz : Only NoneOf w (w.alloc (.cells (zeros32.map bv).toArray 25)) := (Only.refl _ _).alloc _
  have hs0 : ChS w (.slice A L.length cap) L w.heap.size 0 zeros32 (w.alloc (.cells (zeros32.map bv).toArray 25)) := ⟨Blk.new w _ _, rfl, hz, Nat.zero_le _, Nat.zero_le _, rfl⟩
  have HA := Lib.hid hA
  have HOK := Lib.hid hok
  have HT := Lib.hid ht
  have HS0 := Lib.hid hs0
  clear hA hok ht hz hs0
  go_enter Tryz.func20, Tryz.ntmps20
  go_upto_region 2 with (fail)
  refine wp_gen (ChS w (.slice A L.length cap) L w.heap.size 0 zeros32) HS0.out ?_
  intro Y hY
  obtain ⟨b, eb⟩ : ∃ b, b = w.heap.size := ⟨_, rfl⟩
  rw [← eb] at hY ⊢
  have hbw : w.heap.size ≤ b := by omega
  have HY := Lib.hid hY
  clear hY HS0 eb
  go_wp2_with fail
  go_loopw [9] (fun i wr => ∃ (k : Nat) (last : List UInt8), i = .int .i64 k ∧ ChS w (.slice A L.length cap) L b k last wr) (fun i _ => L.length - (intOf i).toNat)
  case atStart => exact ⟨0, zeros32, rfl, HY.out⟩
  case round =>
    obtain ⟨k, last, rfl, hS⟩ := hrel
    have hkl := hS.le
    have hk2 := hS.small
    by_cases hlt : k < L.length
    · obtain ⟨e, he⟩ : ∃ e, L[k]? = some e := ⟨_, List.getElem?_eq_getElem hlt⟩
      obtain ⟨g, o, hA', hg, hr⟩ := HA.out k e he
      subst hA'
      have heok := HOK.out e (List.mem_of_getElem? he)
      have hr2 := range_only hr hS.only
      have hld := ev_load_at hr2 heok.1.prev
      have hn6 := Blk.new wr tEv (evC blank0).toArray
      have hst : (evStore (.pointer (some ⟨wr.heap.size, 0, none⟩)) (.agg (evC e).toArray)).run Tryz.prog (wr.alloc (.cells #[.int .i64 0, .int .i64 0, .int .i64 0, .int .i64 0, .int .i64 0, .int .i64 0, .int .i64 0, .int .i64 0, .string ⟨#[]⟩, .string ⟨#[]⟩, .int .i64 0, .int .i64 0, .int .u8 0, .int .u8 0, .int .u8 0, .int .u8 0, .int .u8 0, .int .u8 0, .int .u8 0, .int .u8 0, .int .u8 0, .int .u8 0, .int .u8 0, .int .u8 0, .int .u8 0, .int .u8 0, .int .u8 0, .int .u8 0, .int .u8 0, .int .u8 0, .int .u8 0, .int .u8 0, .int .u8 0, .int .u8 0, .int .u8 0, .int .u8 0, .int .u8 0, .int .u8 0, .int .u8 0, .int .u8 0, .int .u8 0, .int .u8 0, .int .u8 0, .int .u8 0, .int .i64 0, .int .i64 0] 29)) = .ok () ((wr.alloc (.cells #[.int .i64 0, .int .i64 0, .int .i64 0, .int .i64 0, .int .i64 0, .int .i64 0, .int .i64 0, .int .i64 0, .string ⟨#[]⟩, .string ⟨#[]⟩, .int .i64 0, .int .i64 0, .int .u8 0, .int .u8 0, .int .u8 0, .int .u8 0, .int .u8 0, .int .u8 0, .int .u8 0, .int .u8 0, .int .u8 0, .int .u8 0, .int .u8 0, .int .u8 0, .int .u8 0, .int .u8 0, .int .u8 0, .int .u8 0, .int .u8 0, .int .u8 0, .int .u8 0, .int .u8 0, .int .u8 0, .int .u8 0, .int .u8 0, .int .u8 0, .int .u8 0, .int .u8 0, .int .u8 0, .int .u8 0, .int .u8 0, .int .u8 0, .int .u8 0, .int .u8 0, .int .i64 0, .int .i64 0] 29)).setCells wr.heap.size 0 (evC e)) := ev_store (cs := evC blank0) hn6 rfl heok.1.prev
      dsimp only at hst
      have HS := Lib.hid hS
      have HE := Lib.hid heok
      have HR := Lib.hid hr
      have ik : (k : Int) < (L.length : Int) := by omega
      clear hS heok hr hr2 hn6
      go_upto_region 5 with (fail)
      obtain ⟨c, ec⟩ : ∃ c, c = wr.heap.size := ⟨_, rfl⟩
      rw [← ec]
      have hcb : w.heap.size ≤ c := by rw [ec]; exact HS.out.only.size
      have hbc : b ≠ c := fun e => by have := HS.out.hash.lt; omega
      have hn6 := Blk.new wr tEv (evC blank0).toArray
      rw [← ec] at hn6
      have hZe : EvAt ((wr.alloc (.cells (evC blank0).toArray tEv)).setCells c 0 (evC e)) c e := setCells_own hn6 (by rw [evC_len HE.out.1.prev]; rfl)
      have hZb := ((HS.out.hash.alloc (.cells (evC blank0).toArray tEv)).farCells (b := c) hbc (evC e) 0)
      have hZo : Only NoneOf w ((wr.alloc (.cells (evC blank0).toArray tEv)).setCells c 0 (evC e)) := only_setCells (HS.out.only.alloc _) _ _ (.inr hcb) _
      refine wp_gen (fun Z => EvAt Z c e ∧ Blk Z b 25 (last.map bv).toArray ∧ Only NoneOf w Z) ⟨hZe, hZb, hZo⟩ ?_
      rintro Z ⟨hze, hzb, hzo⟩
      clear hld hst hn6 hZe hZb hZo ec
      have hdrop : L.drop k = e :: L.drop (k + 1) := by rw [List.drop_eq_getElem_cons hlt]; rw [List.getElem?_eq_getElem hlt] at he; rw [Option.some.inj he]
      have hstate := HS.out.state
      rw [hdrop] at hstate
      have hlen := HS.out.len
      have z0 : Z.cell? ⟨c, 0, none⟩ = some (.int .i64 e.seq) := ev_cell hze 0
      have z3 : Z.cell? ⟨c, 3, none⟩ = some (.int .i64 e.time) := ev_cell hze 3
      have zh := h_load (ev_range hze) HE.out.1.prev
      have zb := h_load (W := Z) (g := b) (o := 0) (l := last) (fun j v hj => by rw [Nat.zero_add, hzb.cell]; simpa using hj) hlen
      have zn := fun W => neq_hash e.prev last HE.out.1.prev hlen W
      have HZE := Lib.hid hze
      have HZB := Lib.hid hzb
      have HZO := Lib.hid hzo
      have HLEN := Lib.hid hlen
      clear hze hzb hzo hlen hdrop
      by_cases h2 : k = 2000
      · have hres : chainL L = (k, 2) := by rw [hstate, chainGo, if_pos h2]
        have ik2 : (k : Int) = 2000 := by omega
        have HRES := Lib.hid hres
        clear hstate hres zh zb zn z0 z3
        go_wp2_with fail
        go_ret2
        exact ⟨by rw [HRES.out]; simp [h2], HZO.out⟩
      · have ik2 : ¬ (k : Int) = 2000 := by omega
        have ik3 : ((k : Int) == 2000) = false := beq_eq_false_iff_ne.2 ik2
        by_cases h3 : e.seq = (k : Int)
        · have h3b : (e.seq != (k : Int)) = false := by rw [h3]; simp
          cases h4 : (e.prev == last) with
          | false =>
            have h4' : e.prev ≠ last := fun h => by rw [h] at h4; simp at h4
            have hres : chainL L = (k, 20) := by rw [hstate, chainGo, if_neg h2, if_neg (by rw [h3]; simp), if_pos h4']
            rw [h4] at zn
            simp only [Bool.not_false] at zn
            have HRES := Lib.hid hres
            clear hstate hres z3 h4
            go_wp2_with fail
            go_ret2
            exact ⟨by rw [HRES.out]; rfl, HZO.out⟩
          | true =>
            have h4' : e.prev = last := by simpa using h4
            rw [h4] at zn
            simp only [Bool.not_true] at zn
            have HH4 := Lib.hid h4'
            clear h4 h4'
            go_upto_region 11 with (fail)
            clear zn zh zb
            have hrec : ∀ pt : Int, prevT L k = pt → (0 < k → pt ≤ e.time) → chainL L = chainGo (k + 1) (hashE e) e.time (L.drop (k + 1)) := fun pt hp h => by
              rw [hstate, hp, chainGo_cons (by omega) h3 HH4.out h]
            have herr : ∀ pt : Int, prevT L k = pt → 0 < k → e.time < pt → chainL L = (k, 32) := fun pt hp h0 h => by
              rw [hstate, hp, chainGo, if_neg h2, if_neg (by rw [h3]; simp), if_neg (by rw [HH4.out]; simp), if_pos ⟨h0, h⟩]
            have HREC := Lib.hid hrec
            have HERR := Lib.hid herr
            have H3 := Lib.hid h3
            clear hstate hrec herr h3 h3b
            rcases Nat.eq_zero_or_pos k with hk0 | hk0
            case' inl =>
              have gd : decide ((0 : Int) < (k : Int)) = false := decide_eq_false (by omega)
              have gdn : decide (0 < k) = false := decide_eq_false (by omega)
              have hgo : chainL L = chainGo (k + 1) (hashE e) e.time (L.drop (k + 1)) := HREC.out 0 (by rw [hk0]; rfl) (fun h => by omega)
              have HGO := Lib.hid hgo
              clear hgo hk0
              go_quiet (fail)
            case' inr =>
              obtain ⟨n, hn⟩ : ∃ n, n = k - 1 := ⟨_, rfl⟩
              obtain ⟨p, hp⟩ : ∃ p, L[n]? = some p := ⟨_, List.getElem?_eq_getElem (by omega)⟩
              obtain ⟨g', o', hA2, hg2, hr2⟩ := HA.out n p hp
              obtain ⟨rfl, rfl⟩ : g = g' ∧ o = o' := by simpa using hA2
              have zp : Z.cell? ⟨g, o + n * 46 + 3, none⟩ = some (.int .i64 p.time) := HZO.out.cell_some (hr2 3 _ rfl) (fun e => e)
              have hpt : (prevT L k) = p.time := by
                rw [show k = n + 1 by omega]
                exact prevT_succ hp
              have gd : decide ((0 : Int) < (k : Int)) = true := decide_eq_true (by omega)
              have gdn : decide (0 < k) = true := decide_eq_true (by omega)
              have kw : IntKind.i64.wrap ((k : Int) - 1) = (n : Int) := by rw [show (k : Int) - 1 = (n : Int) by omega]; exact IntWalk.i64_in _ (by omega)
              have n0 : (0 : Int) ≤ (n : Int) := by omega
              have n1 : (n : Int) < (L.length : Int) := by omega
              by_cases hti : e.time < p.time
              · have herr := HERR.out p.time hpt hk0 hti
                have HE2 := Lib.hid herr
                clear herr hp hr2 hA2 hpt hn hg2
                go_quiet (fail)
                go_wp2_with fail
                go_ret2
                exact ⟨by rw [HE2.out]; rfl, HZO.out.drewN _⟩
              have hgo : chainL L = chainGo (k + 1) (hashE e) e.time (L.drop (k + 1)) := HREC.out p.time hpt (fun _ => by omega)
              have hti2 : decide (e.time < p.time) = false := decide_eq_false hti
              have HGO := Lib.hid hgo
              clear hgo hp hr2 hA2 hpt hn hg2 hti
              go_quiet (fail)
            all_goals
              have cldz : ∀ q, (evLoad (.pointer (some ⟨c, 0, none⟩))).run Tryz.prog (Z.drewN q) = .ok (.agg (evC e).toArray) (Z.drewN q) := fun q => ev_load (HZE.out.drewN q) HE.out.1.prev
              go_wp2_with fail
              refine (ehash_any e HE.out.1 HE.out.2.1 HE.out.2.2 _ (HT.out.none (HZO.out.drewN _))).mono ?_
              unfold hv
              rintro e9 w9 ⟨rfl, ho9⟩
              have hb9 : Blk w9 b 25 (last.map bv).toArray := (HZB.out.drewN _).only ho9 (fun e => e)
              have hst9 := h_store hb9 HLEN.out (hashE_len e)
              have hnew : ChS w (.slice (some ⟨g, o, none⟩) L.length cap) L b (k + 1) (hashE e) (w9.setCells b 0 ((hashE e).map bv)) := by
                refine ⟨setCells_own hb9 (by simp [HLEN.out, hashE_len]), hashE_len e, only_setCells ((HZO.out.drewN _).trans ho9) _ _ (.inr hbw) _, by omega, by omega, ?_⟩
                rw [prevT_succ he]
                exact HGO.out
              have HNEW := Lib.hid hnew
              clear hb9 hnew ho9 cldz he
              go_wp2_with fail
              go_roundw
              case rel => exact ⟨k + 1, hashE e, by go_num, HNEW.out⟩
              case measure => simp [intOf]; omega
        · have hres : chainL L = (k, 1) := by rw [hstate, chainGo, if_neg h2, if_pos h3]
          have HRES := Lib.hid hres
          clear hstate hres zh zb zn z3
          go_wp2_with fail
          go_ret2
          exact ⟨by rw [HRES.out]; rfl, HZO.out⟩
    · obtain rfl : k = L.length := by omega
      have hdrop : L.drop L.length = [] := List.drop_length
      have hres : chainL L = (L.length, 0) := by rw [hS.state, hdrop, chainGo]
      have HRES := Lib.hid hres
      have HO := Lib.hid hS.only
      clear hS hdrop hres
      go_wp2_with fail
      go_ret2
      exact ⟨by rw [HRES.out]; rfl, HO.out⟩
end Go.Proofs.YtclpebgjmgfigaaGreatDoor
