/- What is proved here: the reference makes a chain of arbitrary events. Conditions: names and texts are short. -/
import Derived.Test.YtclpebgjmgfigaaGreatDoorBent
import Derived.Great.BuildSlice
namespace Go.Proofs.YtclpebgjmgfigaaGreatDoor
open Go.RowKit Go.Shelf
attribute [local go_sem ↓ high] evStore_eq evLoad_eq hLoad_eq hStore_eq
theorem flat_getM {α : Type} {f : α → List Value} {s : Nat} : ∀ (L : List α) (_ : ∀ p ∈ L, (f p).length = s) (i k : Nat) (_ : k < s) (p : α) (_ : L[i]? = some p), (L.flatMap f)[i * s + k]? = (f p)[k]?
  | [], _, _, _, _, _, h => by simp at h
  | x :: l, hf, i, k, hk, p, hp => by
    cases i with
    | zero =>
      simp at hp; subst hp
      simp only [List.flatMap_cons, Nat.zero_mul, Nat.zero_add]
      rw [List.getElem?_append_left (by rw [hf x (by simp)]; exact hk)]
    | succ i =>
      simp only [List.flatMap_cons]
      rw [List.getElem?_append_right (by rw [hf x (by simp), Nat.add_mul]; omega), hf x (by simp), show (i + 1) * s + k - s = i * s + k by rw [Nat.add_mul]; omega]
      exact flat_getM l (fun q hq => hf q (by simp [hq])) i k hk p (by simpa using hp)
/-- A slice of events that the call made. -/
def EvOwn (w : World) (base : Nat) (v : Value) (M : List Ev) : Prop := w.ownsRow base tEv 46 v M.length (M.flatMap evC)
theorem own_evsl {w : World} {base : Nat} {v : Value} {M : List Ev} (h : EvOwn w base v M) (hM : ∀ e ∈ M, e.prev.length = 32) : EvSl w v M := by
  rcases h.2 with ⟨rfl, h0⟩ | ⟨g, cap, cur, rfl, hb, hh, hc, hm, hs, ht⟩
  · have hM0 : M = [] := List.eq_nil_of_length_eq_zero h0
    subst hM0
    exact ⟨none, 0, rfl, Nat.le_refl _, by omega, fun i e he => by simp at he⟩
  · rw [maxLen_val] at hm
    refine ⟨some ⟨g, 0, none⟩, cap, rfl, hc, hm, fun i e he => ⟨g, 0, rfl, Blk.lt (t := tEv) hh, fun j x hj => ?_⟩⟩
    have hl := evC_len (hM e (List.mem_of_getElem? he))
    have hj2 : j < 46 := by
      have := (List.getElem?_eq_some_iff.1 hj).1
      omega
    have hi : i < M.length := (List.getElem?_eq_some_iff.1 he).1
    have h1 := flat_getM M (fun p hp => evC_len (hM p hp)) i j hj2 e he
    rw [← ht, List.getElem?_take, if_pos (by omega), hj] at h1
    have h2 := Blk.cell (t := tEv) hh (i * 46 + j)
    rw [show 0 + i * 46 + j = i * 46 + j by omega, h2]
    simpa using h1
theorem ev_info3 : ∃ ie z, Tryz.prog.info? tEv = some ie ∧ ie.size = 46 ∧ ie.zero = some z ∧ z.cells.size = 46 ∧ ie.bytes ≤ 1000 := by
  have h3 : (Tryz.prog.info? tEv).map (fun i => decide (i.bytes ≤ 1000)) = some true := by kernel_rfl
  have h4 : ((Tryz.prog.info? tEv).bind (·.zero)).map (fun z => z.cells.size) = some 46 := by kernel_rfl
  obtain ⟨ie, z, hie, hsz, hz⟩ := ev_info
  rw [hie] at h3 h4
  simp only [Option.map_some, Option.some.injEq, Option.bind_some, hz, decide_eq_true_eq] at h3 h4
  exact ⟨ie, z, hie, hsz, hz, h4, h3⟩
theorem evC_one (e : Ev) : ∀ u ∈ evC e, u.oneCell' = true := fun v hv => by
  unfold evC at hv
  simp only [List.mem_append, List.mem_cons, List.not_mem_nil, or_false, List.mem_map] at hv
  rcases hv with (rfl | rfl | rfl | rfl | rfl | rfl | rfl | rfl | rfl | rfl | rfl | rfl) | ⟨x, _, rfl⟩ | rfl | rfl <;> rfl
/-- What the loop keeps. -/
structure LnS (w : World) (L : List Ev) (b k : Nat) (t : Int) (last : List UInt8) (v : Value) (M : List Ev) (W : World) : Prop where
  hash : Blk W b 25 (last.map bv).toArray
  len : last.length = 32
  only : Only NoneOf w W
  own : EvOwn W w.heap.size v M
  le : k ≤ L.length
  small : k ≤ 30
  many : M.length = k
  tz : 0 ≤ t ∧ t ≤ 3 * (k : Int)
  ok : EvsOk M
  state : linkL L = M ++ linkGo k last t ((L.take 30).drop k)
/-- What a round keeps while it makes its event, in block c. -/
structure LnT (w : World) (b c : Nat) (last : List UInt8) (v : Value) (M : List Ev) (e : Ev) (Z : World) : Prop where
  ev : EvAt Z c e
  hash : Blk Z b 25 (last.map bv).toArray
  own : EvOwn Z w.heap.size v M
  ne : v.ownBlock ≠ some c
  only : Only NoneOf w Z
theorem LnT.set {w Z : World} {b c : Nat} {last : List UInt8} {v : Value} {M : List Ev} {e f : Ev} {i : Nat} {x : Value} (h : LnT w b c last v M e Z) (hw : w.heap.size ≤ c) (hbc : b ≠ c) (hs : (evC e).set i x = evC f) : LnT w b c last v M f (Z.setCell ⟨c, i, none⟩ x) :=
  ⟨ev_set h.ev hs, h.hash.far (p := ⟨c, i, none⟩) hbc x, own_far h.own (p := ⟨c, i, none⟩) h.ne x, h.ne, h.only.setCell (p := ⟨c, i, none⟩) (.inr hw) x⟩
theorem LnT.keep {w Z Z' : World} {b c : Nat} {last : List UInt8} {v : Value} {M : List Ev} {e : Ev} (h : LnT w b c last v M e Z) (ho : Only NoneOf Z Z') : LnT w b c last v M e Z' :=
  ⟨h.ev.only ho (fun e => e), h.hash.only ho (fun e => e), own_only h.own ho (fun _ _ e => e), h.ne, h.only.trans ho⟩
theorem own_farCells {w : World} {base : Nat} {e : TypeId} {size n : Nat} {v : Value} {xs : List Value} (h : w.ownsRow base e size v n xs) {c o : Nat} (hne : v.ownBlock ≠ some c) (vs : List Value) : (w.setCells c o vs).ownsRow base e size v n xs :=
  own_only h (only_setCells (Only.refl (fun k => k = c) w) c o (.inl rfl) vs) (fun k hk hs => hne (by rw [hk, hs]))
theorem LnT.prev {w Z : World} {b c : Nat} {last : List UInt8} {v : Value} {M : List Ev} {e : Ev} (h : LnT w b c last v M e Z) (hw : w.heap.size ≤ c) (hbc : b ≠ c) (hp : e.prev.length = 32) (hl : last.length = 32) : LnT w b c last v M { e with prev := last } (Z.setCells c 12 (last.map bv)) := by
  refine ⟨?_, h.hash.farCells hbc _ 12, own_farCells h.own h.ne _, h.ne, only_setCells h.only c 12 (.inr hw) _⟩
  have h1 := Blk.setCells (last.map bv) 12 h.ev
  rw [setMany_eq _ _ _ (by rw [List.length_map, hl, evC_len hp]; omega)] at h1
  have e1 : (evC e).take 12 ++ last.map bv ++ (evC e).drop (12 + (last.map bv).length) = evC { e with prev := last } := by
    rw [List.length_map, hl]
    unfold evC
    rw [List.take_left' (by simp), List.drop_append, List.drop_append]
    simp [hp]
  rw [e1] at h1
  exact h1
theorem LnT.hashed {w Z : World} {b c : Nat} {last new : List UInt8} {v : Value} {M : List Ev} {e : Ev} (h : LnT w b c last v M e Z) (hw : w.heap.size ≤ b) (hbc : b ≠ c) (hl : last.length = 32) (hn : new.length = 32) : LnT w b c new v M e (Z.setCells b 0 (new.map bv)) :=
  ⟨h.ev.farCells (Ne.symm hbc) _ 0, setCells_own h.hash (by simp [hl, hn]), own_farCells h.own (own_blk_ne h.own h.hash (by decide)) _, h.ne, only_setCells h.only b 0 (.inr hw) _⟩
theorem h_store_at {W : World} {c : Nat} {e : Ev} {m : List UInt8} (h : EvAt W c e) (hp : e.prev.length = 32) (hm : m.length = 32) : (hStore (.pointer (some ⟨c, 12, none⟩)) (.agg (m.map bv).toArray)).run Tryz.prog W = .ok () (W.setCells c 12 (m.map bv)) :=
  run_storeAt_mid (P := Tryz.prog) W c 12 25 (m.map bv).toArray (Blk.there h 12 _ (by simp [hm, evC_len hp])) (by rw [List.size_toArray, List.length_map, hm]; kernel_rfl) (all_oneCell_toArray (bvs_one _))
theorem h_load_blk {W : World} {b : Nat} {l : List UInt8} (h : Blk W b 25 (l.map bv).toArray) (hl : l.length = 32) : (hLoad (.pointer (some ⟨b, 0, none⟩))).run Tryz.prog W = .ok (.agg (l.map bv).toArray) W :=
  h_load (fun j v hj => by rw [Nat.zero_add, h.cell]; simpa using hj) hl
theorem ev_store_new (W : World) {e : Ev} (hp : e.prev.length = 32) : (evStore (.pointer (some ⟨W.heap.size, 0, none⟩)) (.agg (evC e).toArray)).run Tryz.prog (W.alloc (.cells zeroEv 29)) = .ok () ((W.alloc (.cells (evC blank0).toArray tEv)).setCells W.heap.size 0 (evC e)) :=
  ev_store (cs := evC blank0) (Blk.new W tEv (evC blank0).toArray) rfl hp
/-- A slice literal of one event. -/
def evOne (e : Ev) : List Value := [Value.agg (evC e).toArray].flatMap fun v => v.cells.toList
theorem evOne_eq (e : Ev) : evOne e = evC e := by simp [evOne, Value.cells]
set_option maxRecDepth 100000 in
set_option maxHeartbeats 4000000 in
theorem rlinked_any (v : Value) (L : List Ev) (w : World) (hv : EvSl w v L) (hok : EvsOk L) : Calls Tryz.prog 19 #[v] w fun e w' => ∃ u, e = .returned u ∧ EvOwn w' w.heap.size u (linkL L) ∧ EvsOk (linkL L) ∧ Only NoneOf w w' := by
  obtain ⟨A, cap, rfl, hlc, hcm, hA⟩ := hv
  obtain ⟨ie, z, hie, hsz, hz, hzc, hby⟩ := ev_info3
  have hz0 : Only NoneOf w (w.alloc (.cells (zeros32.map bv).toArray 25)) := (Only.refl _ _).alloc _
  have hs0 : LnS w L w.heap.size 0 0 zeros32 (.slice none 0 0) [] (w.alloc (.cells (zeros32.map bv).toArray 25)) := ⟨Blk.new w _ _, rfl, hz0, ⟨rfl, .inl ⟨rfl, rfl⟩⟩, Nat.zero_le _, Nat.zero_le _, rfl, ⟨Int.le_refl _, by omega⟩, (fun e he => by cases he), rfl⟩
  have HA := Lib.hid hA
  have HOK := Lib.hid hok
  have HS0 := Lib.hid hs0
  have HIE := Lib.hid hie
  have HSZ := Lib.hid hsz
  have HZ := Lib.hid hz
  have HZC := Lib.hid hzc
  have HBY := Lib.hid hby
  clear hA hok hz0 hs0 hie hsz hz hzc hby
  go_enter Tryz.func19, Tryz.ntmps19
  go_upto_region 3 with (fail)
  refine wp_gen (LnS w L w.heap.size 0 0 zeros32 (.slice none 0 0) []) HS0.out ?_
  intro Y hY
  obtain ⟨b, eb⟩ : ∃ b, b = w.heap.size := ⟨_, rfl⟩
  rw [← eb] at hY ⊢
  have hbw : w.heap.size ≤ b := by omega
  have HY := Lib.hid hY
  clear hY HS0 eb
  go_wp2_with fail
  go_loopw [3, 5, 6] (fun o t i wr => ∃ (k : Nat) (tt : Int) (last : List UInt8) (M : List Ev), i = .int .i64 k ∧ t = .int .i64 tt ∧ LnS w L b k tt last o M wr) (fun _ _ i _ => L.length - (intOf i).toNat)
  case atStart => exact ⟨0, 0, zeros32, [], rfl, rfl, HY.out⟩
  case round =>
    obtain ⟨k, tt, last, M, rfl, rfl, hS⟩ := hrel
    have hkl := hS.le
    have hk3 := hS.small
    have htz := hS.tz
    by_cases hlt : k < L.length
    · by_cases h30 : k < 30
      · obtain ⟨e, he⟩ : ∃ e, L[k]? = some e := ⟨_, List.getElem?_eq_getElem hlt⟩
        obtain ⟨g, o, hA', hg, hr⟩ := HA.out k e he
        subst hA'
        have heok := HOK.out e (List.mem_of_getElem? he)
        have hr2 := range_only hr hS.only
        have hld := ev_load_at hr2 heok.1.prev
        have ik : (k : Int) < (L.length : Int) := by omega
        have ik2 : (k : Int) < 30 := by omega
        have id1 : decide ((k : Int) < (L.length : Int)) = true := decide_eq_true ik
        have id2 : decide ((k : Int) < 30) = true := decide_eq_true ik2
        have hst := ev_store_new wr heok.1.prev
        unfold zeroEv at hst
        dsimp only at hst
        obtain ⟨r, er⟩ : ∃ r, e.time % 4 = r := ⟨_, rfl⟩
        obtain ⟨t2, et⟩ : ∃ t2, tt + r = t2 := ⟨_, rfl⟩
        have hr4 : 0 ≤ r ∧ r < 4 := by omega
        have kw : IntKind.i64.wrap (tt + r) = t2 := by rw [et]; exact IntWalk.i64_in _ (by omega)
        have hmod := fun W => rmod_any e.time 4 heok.1.time (by omega) (by omega) W
        simp only [er] at hmod
        have hstate : linkL L = (M ++ [{ e with seq := (k : Int), time := t2, prev := last }]) ++ linkGo (k + 1) (hashE { e with seq := (k : Int), time := t2, prev := last }) t2 ((L.take 30).drop (k + 1)) := by
          have h1 : (L.take 30).drop k = e :: (L.take 30).drop (k + 1) := by
            have h2 : (L.take 30)[k]? = some e := by rw [List.getElem?_take, if_pos h30]; exact he
            obtain ⟨h3, h4⟩ := List.getElem?_eq_some_iff.1 h2
            rw [List.drop_eq_getElem_cons h3, h4]
          rw [hS.state, h1]
          simp only [linkGo, er, et, List.append_assoc, List.cons_append, List.nil_append]
        have hok2 : EvsOk (M ++ [{ e with seq := (k : Int), time := t2, prev := last }]) := by
          intro f hf
          rcases List.mem_append.1 hf with hf | hf
          · exact hS.ok f hf
          · rw [List.mem_singleton] at hf
            subst hf
            exact ⟨⟨(⟨by omega, by omega⟩ : In (k : Int)), heok.1.kind, heok.1.who, (⟨by omega, by omega⟩ : In t2), heok.1.bidder, heok.1.lot, heok.1.n, heok.1.other, heok.1.sx, heok.1.sy, hS.len, heok.1.r, heok.1.s⟩, heok.2.1, heok.2.2⟩
        have hmany := hS.many
        have hlen := hS.len
        have hcs : ∀ c, c = wr.heap.size → LnT w b c last u3 M e ((wr.alloc (.cells (evC blank0).toArray tEv)).setCells c 0 (evC e)) := by
          intro c ec
          have hcb : w.heap.size ≤ c := by rw [ec]; exact hS.only.size
          have hbc : b ≠ c := fun e => by have := hS.hash.lt; omega
          have hn6 := Blk.new wr tEv (evC blank0).toArray
          rw [← ec] at hn6
          have hne : u3.ownBlock ≠ some c := fun h => by have := (own_ge hS.own h).2; omega
          exact ⟨setCells_own hn6 (by rw [evC_len heok.1.prev]; rfl), (hS.hash.alloc _).farCells hbc _ 0, own_farCells (hS.own.alloc _) hne _, hne, only_setCells (hS.only.alloc _) _ _ (.inr hcb) _⟩
        obtain ⟨c, ec⟩ : ∃ c, c = wr.heap.size := ⟨_, rfl⟩
        have hcb : w.heap.size ≤ c := by rw [ec]; exact hS.only.size
        have hbc : b ≠ c := fun e => by have := hS.hash.lt; omega
        have hT := hcs c ec
        have HT := Lib.hid hT
        have HE := Lib.hid heok
        have HST := Lib.hid hstate
        have HOK2 := Lib.hid hok2
        have HMANY := Lib.hid hmany
        have HLEN := Lib.hid hlen
        have HMOD := Lib.hid hmod
        have HEC := Lib.hid ec
        have HR4 := Lib.hid hr4
        have HET := Lib.hid et
        clear hS heok hr hr2 hcs hT hstate hok2 hmany hlen hmod ec hr4 er et
        go_upto_region 8 with (fail)
        rw [← HEC.out]
        refine wp_gen (LnT w b c last u3 M e) HT.out ?_
        intro Z hZ
        have z0 : Z.cell? ⟨c, 0, none⟩ = some (.int .i64 e.seq) := ev_cell hZ.ev 0
        have z3 : Z.cell? ⟨c, 3, none⟩ = some (.int .i64 e.time) := ev_cell hZ.ev 3
        have hT1 := hZ.set (i := 0) (x := .int .i64 (k : Int)) hcb hbc (f := { e with seq := (k : Int) }) rfl
        have hT2 := hT1.set (i := 3) (x := .int .i64 t2) hcb hbc (f := { e with seq := (k : Int), time := t2 }) rfl
        have f0 := Blk.frozen hZ.ev 0
        have f3 := Blk.frozen hT1.ev 3
        have HT2 := Lib.hid hT2
        clear hZ hT1 hT2 HT hld hst
        go_wp2_with fail
        refine (HMOD.out _).mono ?_
        rintro e1 Z ⟨rfl, rfl⟩
        go_upto_region 11 with (fail)
        refine wp_gen (LnT w b c last u3 M { e with seq := (k : Int), time := t2 }) HT2.out ?_
        intro Z2 hZ2
        have hl2 := h_load_blk hZ2.hash HLEN.out
        have hs2 := h_store_at hZ2.ev HE.out.1.prev HLEN.out
        have HT3 := Lib.hid (hZ2.prev hcb hbc HE.out.1.prev HLEN.out)
        clear hZ2 HT2 z0 z3 f0 f3
        go_upto_region 12 with (fail)
        refine wp_gen (LnT w b c last u3 M { e with seq := (k : Int), time := t2, prev := last }) HT3.out ?_
        intro Z3 hZ3
        obtain ⟨e2, ee2⟩ : ∃ e2 : Ev, e2 = { e with seq := (k : Int), time := t2, prev := last } := ⟨_, rfl⟩
        rw [← ee2] at hZ3 HST HOK2
        have he2 := HOK2.out e2 (by simp)
        have hl3 := ev_load hZ3.ev he2.1.prev
        have HZ3 := Lib.hid hZ3
        have HE2 := Lib.hid he2
        clear hZ3 he2 HT3 hl2 hs2 ee2
        go_wp2_with fail
        refine (revhash_any e2 HE2.out.1 HE2.out.2.1 HE2.out.2.2 _).mono ?_
        unfold hv
        rintro e9 w9 ⟨rfl, ho9⟩
        have hk9 := HZ3.out.keep ho9
        have hst9 := h_store hk9.hash HLEN.out (hashE_len e2)
        have HT4 := Lib.hid (hk9.hashed hbw hbc HLEN.out (hashE_len e2))
        clear hk9 ho9 hl3
        go_upto_region 13 with (fail)
        refine wp_gen (LnT w b c (hashE e2) u3 M e2) HT4.out ?_
        intro Z4 hZ4
        have hl4 := ev_load hZ4.ev HE2.out.1.prev
        have HZ4 := Lib.hid hZ4
        clear hZ4 HT4 hst9
        have h46 : (evC e2).length = 1 * 46 := by rw [evC_len HE2.out.1.prev]
        have hnews : ∀ j u, (evC e2)[j]? = some u → (Z4.alloc (.cells (evOne e2).toArray tEv)).cell? (Addr.add ⟨Z4.heap.size, 0, none⟩ j) = some u := by
          intro j u hj
          rw [evOne_eq, Addr.add_mid, Nat.zero_add, (Blk.new Z4 tEv (evC e2).toArray).cell]
          simpa using hj
        have hmax : M.length + 1 ≤ maxLen := by rw [maxLen_val, HMANY.out]; omega
        have hbb : (M.length + 1) * ie.bytes ≤ 140737488355328 := by
          rw [HMANY.out]
          exact Nat.le_trans (Nat.mul_le_mul (show k + 1 ≤ 31 by omega) HBY.out) (by omega)
        have hbase : w.heap.size ≤ (Z4.alloc (.cells (evOne e2).toArray tEv)).heap.size := (HZ4.out.only.alloc _).size
        have H46 := Lib.hid h46
        have HNEWS := Lib.hid hnews
        have HMAX := Lib.hid hmax
        have HBB := Lib.hid hbb
        have HBASE := Lib.hid hbase
        clear h46 hnews hmax hbb hbase
        go_wp2_with (first
          | (refine wpList_buildSlice rfl 42 tEv 1 _ rfl (evOne e2).toArray ie z Tryz.underlying42 HIE.out HZ.out (by rw [HSZ.out]; omega) (by rw [HSZ.out]; omega) (by rw [HSZ.out, Array.toList_map]; exact Great.fill_whole (by omega) [Value.agg (evC e2).toArray] _ (by intro v hv; rw [List.mem_singleton] at hv; subst hv; show (evC e2).toArray.size = 46; rw [List.size_toArray, evC_len HE2.out.1.prev]) (by simp)) ?_)
          | (at_builtin; refine wpList_append_own _ rfl _ _ 42 rfl w.heap.size tEv ie z 46 ie.bytes Tryz.underlying42 HIE.out HZ.out HSZ.out rfl HZC.out (by decide) u3 M.length (M.flatMap evC) rfl (HZ4.out.own.alloc _) ⟨Z4.heap.size, 0, none⟩ 1 1 (evC e2) rfl H46.out HNEWS.out (evC_one e2) HMAX.out HBB.out HBASE.out ?_; intro v' w5 hown5 hgrow _))
        have hnew : LnS w L b (k + 1) t2 (hashE e2) v' (M ++ [e2]) w5 := by
          refine ⟨(HZ4.out.hash.alloc _).grown hgrow (fun h => own_blk_ne HZ4.out.own HZ4.out.hash (by decide) h.symm), hashE_len e2, (HZ4.out.only.alloc _).grown hgrow (fun j e => .inr (own_ge HZ4.out.own e).1), ?_, by omega, by omega, by rw [List.length_append, HMANY.out]; rfl, ?_, HOK2.out, HST.out⟩
          · unfold EvOwn
            rw [List.length_append, List.flatMap_append]
            simpa using hown5
          · have := HR4.out; have := HET.out; omega
        have HNEW := Lib.hid hnew
        clear hown5 hgrow hnew hl4
        go_roundw
        case rel => exact ⟨k + 1, t2, hashE e2, M ++ [e2], by go_num, rfl, HNEW.out⟩
        case measure => simp [intOf]; omega
      · obtain rfl : k = 30 := by omega
        have hst : linkL L = M := by
          rw [hS.state, List.drop_of_length_le (by rw [List.length_take]; omega)]
          simp [linkGo]
        have ik : ((30 : Nat) : Int) < (L.length : Int) := by omega
        have id1 : decide (((30 : Nat) : Int) < (L.length : Int)) = true := decide_eq_true ik
        have HS := Lib.hid hS
        have HST := Lib.hid hst
        clear hS hst
        go_wp2_with fail
        go_ret
        exact ⟨_, rfl, by rw [HST.out]; exact HS.out.own, by rw [HST.out]; exact HS.out.ok, HS.out.only⟩
    · obtain rfl : k = L.length := by omega
      have hst : linkL L = M := by
        rw [hS.state, List.drop_of_length_le (by rw [List.length_take]; omega)]
        simp [linkGo]
      have id1 : decide ((L.length : Int) < (L.length : Int)) = false := decide_eq_false (by omega)
      have HS := Lib.hid hS
      have HST := Lib.hid hst
      clear hS hst
      go_wp2_with fail
      go_ret
      exact ⟨_, rfl, by rw [HST.out]; exact HS.out.own, by rw [HST.out]; exact HS.out.ok, HS.out.only⟩
end Go.Proofs.YtclpebgjmgfigaaGreatDoor
