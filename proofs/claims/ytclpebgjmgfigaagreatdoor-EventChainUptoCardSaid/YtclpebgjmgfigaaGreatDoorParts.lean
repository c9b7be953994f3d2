/- What is proved here: the law on parts of a chain and one more event answers true. Conditions: the library's table reads as its initialiser lays it; names and texts are short. -/
import Derived.Test.YtclpebgjmgfigaaGreatDoorOwnE
import Derived.Test.YtclpebgjmgfigaaGreatDoorRch
import Derived.Test.YtclpebgjmgfigaaGreatDoorEvK
namespace Go.Proofs.YtclpebgjmgfigaaGreatDoor
open Go.RowKit Go.Shelf
attribute [local go_sem ↓ high] evStore_eq evLoad_eq hLoad_eq hStore_eq
theorem EvSl.take {w : World} {A : Option Addr} {n cap k : Nat} {L : List Ev} (h : EvSl w (.slice A n cap) L) (hk : k ≤ L.length) (c2 : Nat) (hc : k ≤ c2) (hc2 : c2 ≤ cap) : EvSl w (.slice A k c2) (L.take k) := by
  obtain ⟨A', cap', hv, h1, h2, h3⟩ := h
  simp only [Value.slice.injEq] at hv
  obtain ⟨rfl, rfl, rfl⟩ := hv
  have hl : (L.take k).length = k := by rw [List.length_take]; omega
  refine ⟨A, c2, by rw [hl], by omega, by omega, fun i e he => ?_⟩
  have hi : i < k := by
    have := (List.getElem?_eq_some_iff.1 he).1
    omega
  rw [List.getElem?_take, if_pos hi] at he
  exact h3 i e he
/-- What the law keeps: its chain, and the event in block c. -/
structure PtS (w : World) (A : Option Addr) (cap : Nat) (C : List Ev) (c : Nat) (f : Ev) (Z : World) : Prop where
  sl : EvSl Z (.slice A C.length cap) C
  ev : EvAt Z c f
  only : Only NoneOf w Z
theorem PtS.keep {w Z Z' : World} {A : Option Addr} {cap : Nat} {C : List Ev} {c : Nat} {f : Ev} (h : PtS w A cap C c f Z) (ho : Only NoneOf Z Z') : PtS w A cap C c f Z' :=
  ⟨h.sl.only ho, h.ev.only ho (fun e => e), h.only.trans ho⟩
/-- Cells of another block than those of a slice of events are set. -/
theorem EvSl.far {w : World} {A : Option Addr} {n cap : Nat} {L : List Ev} (h : EvSl w (.slice A n cap) L) {c : Nat} (hc : ∀ a, A = some a → a.block ≠ c) (o : Nat) (vs : List Value) : EvSl (w.setCells c o vs) (.slice A n cap) L := by
  obtain ⟨A', cap', hv, h1, h2, h3⟩ := h
  refine ⟨A', cap', hv, h1, h2, fun i e he => ?_⟩
  obtain ⟨g, o', hA, hg, hr⟩ := h3 i e he
  simp only [Value.slice.injEq] at hv
  obtain ⟨rfl, rfl, rfl⟩ := hv
  have hne : g ≠ c := hc _ hA
  refine ⟨g, o', hA, by rw [setCells_size]; exact hg, fun j v hj => ?_⟩
  rw [World.cell?_setCells_out c vs o w ⟨g, o' + i * 46 + j, none⟩ (fun hb => absurd hb hne)]
  exact hr j v hj
theorem setCell_cells (w : World) (c i : Nat) (x : Value) : w.setCell ⟨c, i, none⟩ x = w.setCells c i [x] := rfl
theorem PtS.set {w Z : World} {A : Option Addr} {cap : Nat} {C : List Ev} {c : Nat} {f g : Ev} {i : Nat} {x : Value} (h : PtS w A cap C c f Z) (hw : w.heap.size ≤ c) (hc : ∀ a, A = some a → a.block ≠ c) (hs : (evC f).set i x = evC g) : PtS w A cap C c g (Z.setCell ⟨c, i, none⟩ x) :=
  ⟨by rw [setCell_cells]; exact h.sl.far hc i [x], ev_set h.ev hs, h.only.setCell (p := ⟨c, i, none⟩) (.inr hw) x⟩
theorem PtS.prev {w Z : World} {A : Option Addr} {cap : Nat} {C : List Ev} {c : Nat} {f : Ev} {l : List UInt8} (h : PtS w A cap C c f Z) (hw : w.heap.size ≤ c) (hc : ∀ a, A = some a → a.block ≠ c) (hp : f.prev.length = 32) (hl : l.length = 32) : PtS w A cap C c { f with prev := l } (Z.setCells c 12 (l.map bv)) := by
  refine ⟨h.sl.far hc _ _, ?_, only_setCells h.only c 12 (.inr hw) _⟩
  have h1 := Blk.setCells (l.map bv) 12 h.ev
  rw [setMany_eq _ _ _ (by rw [List.length_map, hl, evC_len hp]; omega)] at h1
  have e1 : (evC f).take 12 ++ l.map bv ++ (evC f).drop (12 + (l.map bv).length) = evC { f with prev := l } := by
    rw [List.length_map, hl]
    unfold evC
    rw [List.take_left' (by simp), List.drop_append, List.drop_append]
    simp [hp]
  rw [e1] at h1
  exact h1
/-- One more event behind a part of a chain. -/
theorem chain_one_more {C : List Ev} (h : Goes 0 zeros32 0 C) (h30 : C.length ≤ 30) {k : Nat} (hk : k ≤ C.length) {f : Ev} (hs : f.seq = (k : Int)) :
    (k = 0 → f.prev = zeros32 → (chainL (C.take k ++ [f])).2 = 0) ∧ (∀ n p, k = n + 1 → C[n]? = some p → f.prev = hashE p → (chainL (C.take k ++ [f])).2 = if f.time < p.time then 32 else 0) := by
  have hl : (C.take k).length = k := by rw [List.length_take]; omega
  have h1 := chainGo_append (h.take k) [f]
  rw [hl, Nat.zero_add] at h1
  refine ⟨fun h0 hp => ?_, fun n p hn hp0 hp => ?_⟩
  · unfold chainL
    rw [h1]
    subst h0
    simp only [List.take_zero, endH]
    rw [chainGo, if_neg (by omega), if_neg (by rw [hs]; simp), if_neg (by rw [hp]; simp), if_neg (by simp)]
    rfl
  · unfold chainL
    rw [h1]
    subst hn
    rw [List.take_add_one, hp0, Option.toList_some, endH_snoc]
    simp only
    rw [chainGo, if_neg (by omega), if_neg (by rw [hs]; simp), if_neg (by rw [hp]; simp)]
    by_cases hlt : f.time < p.time
    · rw [if_pos ⟨by omega, hlt⟩, if_pos hlt]
    · rw [if_neg (fun h => hlt h.2), if_neg hlt]
      rfl
def zeroH : Array Value := #[.int .u8 0, .int .u8 0, .int .u8 0, .int .u8 0, .int .u8 0, .int .u8 0, .int .u8 0, .int .u8 0, .int .u8 0, .int .u8 0, .int .u8 0, .int .u8 0, .int .u8 0, .int .u8 0, .int .u8 0, .int .u8 0, .int .u8 0, .int .u8 0, .int .u8 0, .int .u8 0, .int .u8 0, .int .u8 0, .int .u8 0, .int .u8 0, .int .u8 0, .int .u8 0, .int .u8 0, .int .u8 0, .int .u8 0, .int .u8 0, .int .u8 0, .int .u8 0]
theorem h_store_zero {W : World} {c : Nat} {e : Ev} (h : EvAt W c e) (hp : e.prev.length = 32) : (hStore (.pointer (some ⟨c, 12, none⟩)) (.agg zeroH)).run Tryz.prog W = .ok () (W.setCells c 12 (zeros32.map bv)) := h_store_at (m := zeros32) h hp rfl
theorem evOne_sl (W : World) (f : Ev) : EvSl (W.alloc (.cells (evC f).toArray tEv)) (.slice (some ⟨W.heap.size, 0, none⟩) 1 1) [f] := by
  refine ⟨some ⟨W.heap.size, 0, none⟩, 1, rfl, Nat.le_refl _, by omega, fun i e he => ⟨W.heap.size, 0, rfl, by simp, fun j u hj => ?_⟩⟩
  match i, he with
  | 0, he =>
    simp only [List.getElem?_cons_zero, Option.some.injEq] at he
    subst he
    rw [show 0 + 0 * 46 + j = j by omega, (Blk.new W tEv (evC f).toArray).cell]
    simpa using hj
/-- A slice literal of one event, under a name that the walk does not open. -/
def bsx (parts : Array (Nat × Value)) : Sem Value := Instr.buildSlice 42 1 parts
theorem bsx_eq (parts : Array (Nat × Value)) : Instr.buildSlice 42 1 parts = bsx parts := rfl
theorem bsx_run (f : Ev) (hf : f.prev.length = 32) (W : World) : (bsx #[(0, .agg (evC f).toArray)]).run Tryz.prog W = .ok (.slice (some ⟨W.heap.size, 0, none⟩) 1 1) (W.alloc (.cells (evC f).toArray tEv)) := by
  obtain ⟨ie, z, hie, hsz, hz, _, _⟩ := ev_info3
  have h := run_buildSlice (P := Tryz.prog) W 42 tEv 1 #[(0, .agg (evC f).toArray)] (evOne f).toArray ie z Tryz.underlying42 hie hz (by rw [hsz]; omega) (by rw [hsz]; omega)
    (by rw [hsz]; exact Great.fill_whole (by omega) [Value.agg (evC f).toArray] _ (by intro v hv; rw [List.mem_singleton] at hv; subst hv; show (evC f).toArray.size = 46; rw [List.size_toArray, evC_len hf]) (by simp))
  rw [evOne_eq] at h
  exact h
attribute [local go_sem ↓ high] bsx_eq
set_option maxRecDepth 100000 in
set_option maxHeartbeats 4000000 in
theorem eparts_law (v : Value) (L : List Ev) {w : World} (hv : EvSl w v L) (hok : ∀ e ∈ L, e.Ok) (hb : ∀ e ∈ L, e.name.size + e.text.size ≤ 1048576) (e : Ev) (he : e.Ok) (heb : e.name.size + e.text.size ≤ 1048576) (m : Nat) (hm : m < 256) (_ : World) (hE : Env3 w) :
    Calls Tryz.prog 7 #[v, .agg (evC e).toArray, .int .u8 (m : Int)] w fun e w' => e = .returned (.bool true) ∧ Only NoneOf w w' := by
  have hoks : EvsOk L := fun e he => ⟨hok e he, by have := hb e he; omega, by have := hb e he; omega⟩
  obtain ⟨q0, eq0⟩ : ∃ q, q = w.heap.size := ⟨_, rfl⟩
  have hA0 : EvAt (w.alloc (.cells (evC e).toArray 29)) q0 e ∧ Only NoneOf w (w.alloc (.cells (evC e).toArray 29)) := by
    rw [eq0]
    exact ⟨Blk.new w _ _, (Only.refl _ _).alloc _⟩
  have HA0 := Lib.hid hA0
  have HV := Lib.hid hv
  have HB := Lib.hid hb
  have HOKS := Lib.hid hoks
  have HE := Lib.hid hE
  have HEV := Lib.hid he
  have HQ0 := Lib.hid eq0
  clear hA0 hv hoks hE hok hb eq0 he
  go_enter Tryz.func7, Tryz.ntmps7
  go_upto_region 1 with (fail)
  rw [← HQ0.out]
  refine wp_gen (fun Z => EvAt Z q0 e ∧ Only NoneOf w Z) HA0.out ?_
  rintro Z0 ⟨hq, ho⟩
  have HQ := Lib.hid hq
  have HO := Lib.hid ho
  clear HA0 hq ho
  go_wp2_with fail
  refine (sanity_any Z0 (HE.out.none HO.out)).mono ?_
  rintro e1 w1 ⟨rfl, ho1⟩
  have HQ1 := Lib.hid (HQ.out.only ho1 (fun e => e))
  have HO1 := Lib.hid (HO.out.trans ho1)
  clear HQ HO ho1
  go_wp2_with fail
  refine (rlinked_any v L w1 (HV.out.only HO1.out) HOKS.out).mono ?_
  rintro e2 w2 ⟨u, rfl, hu, hcok, ho2⟩
  obtain ⟨C, eC⟩ : ∃ C, C = linkL L := ⟨_, rfl⟩
  rw [← eC] at hu hcok
  have hgo : Goes 0 zeros32 0 C := by rw [eC]; exact linkL_goes L
  have h30 : C.length ≤ 30 := by rw [eC]; exact linkL_len L
  have hsl := own_evsl hu (evs_len hcok)
  have hform := own_form' hu
  obtain ⟨uA, ucap, rfl, huc, hum⟩ := hform
  rw [maxLen_val] at hum
  have hab : ∀ a, uA = some a → ∃ g, a = ⟨g, 0, none⟩ ∧ g < w2.heap.size := fun a ha => by
    rcases hu.2 with ⟨h0, _⟩ | ⟨g, cap, cur, h0, hb, hh, _⟩
    · simp only [Value.slice.injEq] at h0
      rw [h0.1] at ha; cases ha
    · simp only [Value.slice.injEq] at h0
      rw [h0.1] at ha
      exact ⟨g, (Option.some.inj ha).symm, Blk.lt (t := tEv) hh⟩
  obtain ⟨k, ek⟩ : ∃ k, k = m % (C.length + 1) := ⟨_, rfl⟩
  have hk : k ≤ C.length := by
    have : k < C.length + 1 := by rw [ek]; exact Nat.mod_lt _ (by omega)
    omega
  have kw1 : IntKind.i64.wrap (m : Int) = (m : Int) := IntWalk.i64_in _ (by omega)
  have kw2 : IntKind.i64.wrap ((C.length : Int) + 1) = (C.length : Int) + 1 := IntWalk.i64_in _ (by omega)
  have kw3 : (m : Int).tmod ((C.length : Int) + 1) = (k : Int) := by rw [ek]; rfl
  have kw4 : IntKind.i64.wrap (k : Int) = (k : Int) := IntWalk.i64_in _ (by omega)
  have kn : ¬ (C.length : Int) + 1 = 0 := by omega
  have k0 : (0 : Int) ≤ (k : Int) := by omega
  have kc : (k : Int) ≤ (ucap : Int) := by omega
  have HQ2 := Lib.hid (HQ1.out.only ho2 (fun e => e))
  have HO2 := Lib.hid (HO1.out.trans ho2)
  have HGO := Lib.hid hgo
  have HCOK := Lib.hid hcok
  have HSL := Lib.hid hsl
  have HAB := Lib.hid hab
  have HK := Lib.hid hk
  clear eC hgo hu hcok hsl hab ho2 HQ1 HO1 HB hk ek
  go_wp2_with fail
  have hpart : chainL (C.take k) = (k, 0) := by
    have h1 := (HGO.out.take k).chain
    rw [Nat.zero_add, List.length_take, Nat.min_eq_left HK.out] at h1
    exact h1
  have hc1 := echain_any (.slice uA k ucap) (C.take k) w2 (HSL.out.take HK.out ucap (by omega) (Nat.le_refl _)) (fun e he => HCOK.out e (List.mem_of_mem_take he)) (HE.out.tab.none HO2.out)
  rw [hpart] at hc1
  refine hc1.mono ?_
  clear hc1 hpart
  rintro e3 w3 ⟨rfl, ho3⟩
  have hl3 := ev_load (HQ2.out.only ho3 (fun e => e)) HEV.out.prev
  have hst3 := ev_store_new w3 HEV.out.prev
  unfold zeroEv at hst3
  dsimp only at hst3
  obtain ⟨c, ec⟩ : ∃ c, c = w3.heap.size := ⟨_, rfl⟩
  have hcw : w.heap.size ≤ c := by rw [ec]; exact (HO2.out.trans ho3).size
  have hcA : ∀ a, uA = some a → a.block ≠ c := fun a ha => by
    obtain ⟨g, rfl, hg⟩ := HAB.out a ha
    have := ho3.size
    simp only
    omega
  have hT : PtS w uA ucap C c e ((w3.alloc (.cells (evC blank0).toArray tEv)).setCells c 0 (evC e)) := by
    have hn6 := Blk.new w3 tEv (evC blank0).toArray
    rw [← ec] at hn6
    exact ⟨(HSL.out.only (ho3.alloc _)).far hcA 0 _, setCells_own hn6 (by rw [evC_len HEV.out.prev]; rfl), only_setCells ((HO2.out.trans ho3).alloc _) c 0 (.inr hcw) _⟩
  have HT := Lib.hid hT
  have HEC := Lib.hid ec
  have HCA := Lib.hid hcA
  clear hT ec hcA ho3
  go_upto_region 6 with (fail)
  rw [← HEC.out]
  refine wp_gen (PtS w uA ucap C c e) HT.out ?_
  intro Z hZ
  clear hl3 hst3 HT
  have z0 : Z.cell? ⟨c, 0, none⟩ = some (.int .i64 e.seq) := ev_cell hZ.ev 0
  have f0 := Blk.frozen hZ.ev 0
  have hT1 := hZ.set (i := 0) (x := .int .i64 (k : Int)) hcw HCA.out (g := { e with seq := (k : Int) }) rfl
  have hs1 := h_store_zero hT1.ev HEV.out.prev
  unfold zeroH at hs1
  have HT2 := Lib.hid (hT1.prev hcw HCA.out HEV.out.prev (l := zeros32) rfl)
  clear hZ hT1
  go_upto_region 9 with (fail)
  refine wp_gen (PtS w uA ucap C c { e with seq := (k : Int), prev := zeros32 }) HT2.out ?_
  intro Z2 hZ2
  have HZ2 := Lib.hid hZ2
  clear hs1 f0 z0 HT2 hZ2
  -- what comes of the last region, whatever the event
  have hfin : ∀ (f : Ev) (er : Int), f.seq = (k : Int) → f.prev.length = 32 → f.Ok → f.name = e.name → f.text = e.text → (chainL (C.take k ++ [f])).2 = er → ∀ W v, EvSl W v (C.take k ++ [f]) → Only NoneOf w W → Calls Tryz.prog 20 #[v] W fun e' w' => ∃ a : Int, e' = .returned (.tuple #[.int .i64 a, .int .i64 er]) ∧ Only NoneOf W w' := by
    intro f er _ _ hf hn ht her W v hs ho
    rw [← her]
    refine (echain_any v _ W hs ?_ (HE.out.tab.none ho)).mono (fun e' w' h => ⟨_, h.1, h.2⟩)
    intro x hx
    rcases List.mem_append.1 hx with h | h
    · exact HCOK.out x (List.mem_of_mem_take h)
    · rw [List.mem_singleton] at h
      subst h
      exact ⟨hf, by rw [hn]; omega, by rw [ht]; omega⟩
  have hkeep : ∀ (f : Ev) W W', PtS w uA ucap C c f W → Only NoneOf W W' → PtS w uA ucap C c f W' := fun f W W' h ho => h.keep ho
  have HFIN := Lib.hid hfin
  have HKEEP := Lib.hid hkeep
  clear hfin hkeep
  rcases Nat.eq_zero_or_pos k with hk0 | hk0
  · have gd : decide ((0 : Int) < (k : Int)) = false := decide_eq_false (by omega)
    have g1 : ¬ (0 : Int) < (k : Int) := by omega
    obtain ⟨f, ef⟩ : ∃ f : Ev, f = { e with seq := (k : Int), prev := zeros32 } := ⟨_, rfl⟩
    have hf : f.Ok := by
      rw [ef]
      exact ⟨(⟨by omega, by omega⟩ : In (k : Int)), HEV.out.kind, HEV.out.who, HEV.out.time, HEV.out.bidder, HEV.out.lot, HEV.out.n, HEV.out.other, HEV.out.sx, HEV.out.sy, rfl, HEV.out.r, HEV.out.s⟩
    have h0 : (chainL (C.take k ++ [f])).2 = 0 := (chain_one_more HGO.out h30 HK.out (f := f) (by rw [ef])).1 hk0 (by rw [ef])
    have HCH := Lib.hid (HFIN.out f 0 (by rw [ef]) hf.prev hf (by rw [ef]) (by rw [ef]) h0)
    have HS := HZ2
    rw [← ef] at HS
    have HF := Lib.hid hf
    clear hf h0 ef HZ2 hk0 HFIN
    have hld : ∀ W, PtS w uA ucap C c f W → (evLoad (.pointer (some ⟨c, 0, none⟩))).run Tryz.prog W = .ok (.agg (evC f).toArray) W := fun W h => ev_load h.ev HF.out.prev
    have hbs := bsx_run f HF.out.prev
    have HTK : Hid (∀ W, PtS w uA ucap C c f W → EvSl W (.slice uA k k) (C.take k)) := Lib.hid (fun W h => h.sl.take HK.out k (Nat.le_refl _) (by have := HK.out; omega))
    have HLT : Hid (k < k + [f].length ∨ [f] = ([] : List Ev)) := Lib.hid (.inl (by simp))
    have HTL : Hid (∀ e ∈ C.take k, e.prev.length = 32) := Lib.hid (fun e he => (evs_len HCOK.out) e (List.mem_of_mem_take he))
    have HFL : Hid (∀ e ∈ [f], e.prev.length = 32) := Lib.hid (fun e he => by rw [List.mem_singleton] at he; subst he; exact HF.out.prev)
    have HSM : Hid (k + [f].length ≤ 1000000) := Lib.hid (by simp; have := HK.out; omega)
    have HOSL := Lib.hid (fun W => evOne_sl W f)
    have HKP : Hid (∀ W W', PtS w uA ucap C c f W → Only NoneOf W W' → PtS w uA ucap C c f W') := Lib.hid (fun W W' h ho => h.keep ho)
    have HAL : Hid (∀ W o, PtS w uA ucap C c f W → PtS w uA ucap C c f (W.alloc o)) := Lib.hid (fun W o h => h.keep ((Only.refl _ _).alloc o))
    have hS := HS.out.keep (Only.refl _ _).drew
    clear HS
    go_upto_region 12 with (fail)
    go_region_held3 (fun w' => PtS w uA ucap C c f w') (first | assumption | exact HAL.out _ _ (by assumption))
      (first
        | ((refine step_append_evs (by rfl) _ _ (by rfl) uA k k (by rfl) (C.take k) (HTK.out _ (by assumption)) _ (by rfl) [f] (by first | exact HOSL.out _ | exact (HOSL.out _).only (Only.refl _ _).drew) HLT.out HTL.out HFL.out HSM.out ?_); intro v' W' hsl' ho'; have hS' := HKP.out _ _ (by assumption) ho'; clear ho')
        | (go_at_call 20; refine (HCH.out _ _ (by assumption) (PtS.only (by assumption))).mono ?_; rintro e6 w6 ⟨a, rfl, ho6⟩; have hS6 := HKP.out _ _ (by assumption) ho6; clear ho6))
    go_wp2_with fail
    go_ret
    exact ⟨rfl, hS6.only⟩
  · obtain ⟨n, hn⟩ : ∃ n, k = n + 1 := ⟨k - 1, by omega⟩
    have hkk := HK.out
    obtain ⟨p, hp⟩ : ∃ p, C[n]? = some p := ⟨_, List.getElem?_eq_getElem (by omega)⟩
    have hpo := HCOK.out p (List.mem_of_getElem? hp)
    obtain ⟨g, rfl, hgw, hgr⟩ : ∃ g, uA = some ⟨g, 0, none⟩ ∧ g < w2.heap.size ∧ Z2.rangeAt g (n * 46) (evC p) := by
      obtain ⟨A', cap', hv', _, _, h3⟩ := HZ2.out.sl
      simp only [Value.slice.injEq] at hv'
      obtain ⟨rfl, _, rfl⟩ := hv'
      obtain ⟨g, o, hA, _, hr⟩ := h3 n p hp
      obtain ⟨g', ha, hg'⟩ := HAB.out ⟨g, o, none⟩ hA
      simp only [Addr.mk.injEq, and_true] at ha
      obtain ⟨rfl, rfl⟩ := ha
      rw [Nat.zero_add] at hr
      exact ⟨g, hA, hg', hr⟩
    have cp : Z2.cell? ⟨g, n * 46 + 3, none⟩ = some (.int .i64 p.time) := hgr 3 _ rfl
    have hlp := ev_load_at hgr hpo.1.prev
    have gd : decide ((0 : Int) < (k : Int)) = true := decide_eq_true (by omega)
    have g1 : (0 : Int) < (k : Int) := by omega
    have kw5 : IntKind.i64.wrap ((k : Int) - 1) = (n : Int) := by rw [show (k : Int) - 1 = (n : Int) by omega]; exact IntWalk.i64_in _ (by omega)
    have n0 : (0 : Int) ≤ (n : Int) := by omega
    have n1 : (n : Int) < (C.length : Int) := by omega
    have HPO := Lib.hid hpo
    have HP := Lib.hid hp
    have HN := Lib.hid hn
    clear hgr hp hpo hk0 hkk hn
    go_wp2_with fail
    refine (ehash_any p HPO.out.1 HPO.out.2.1 HPO.out.2.2 Z2 (HE.out.tab.none HZ2.out.only)).mono ?_
    unfold hv
    rintro e4 w4 ⟨rfl, ho4⟩
    have hs4 := h_store_at (HZ2.out.keep ho4).ev rfl (hashE_len p)
    have HZ4 := Lib.hid ((HZ2.out.keep ho4).prev hcw HCA.out rfl (hashE_len p))
    clear ho4 cp hlp
    go_upto_region 12 with (fail)
    refine wp_gen (PtS w (some ⟨g, 0, none⟩) ucap C c { e with seq := (k : Int), prev := hashE p }) HZ4.out ?_
    intro Z5 hZ5
    clear hs4 HZ4 HZ2
    obtain ⟨f, ef⟩ : ∃ f : Ev, f = { e with seq := (k : Int), prev := hashE p } := ⟨_, rfl⟩
    have hf : f.Ok := by
      rw [ef]
      exact ⟨(⟨by omega, by omega⟩ : In (k : Int)), HEV.out.kind, HEV.out.who, HEV.out.time, HEV.out.bidder, HEV.out.lot, HEV.out.n, HEV.out.other, HEV.out.sx, HEV.out.sy, hashE_len p, HEV.out.r, HEV.out.s⟩
    obtain ⟨er, eer⟩ : ∃ er : Int, er = if f.time < p.time then 32 else 0 := ⟨_, rfl⟩
    have h0 : (chainL (C.take k ++ [f])).2 = er := by rw [eer]; exact (chain_one_more HGO.out h30 HK.out (f := f) (by rw [ef])).2 n p HN.out HP.out (by rw [ef])
    have HCH := Lib.hid (HFIN.out f er (by rw [ef]) hf.prev hf (by rw [ef]) (by rw [ef]) h0)
    rw [← ef] at hZ5
    have HS := Lib.hid hZ5
    have HF := Lib.hid hf
    have HER := Lib.hid eer
    clear hf h0 ef hZ5 HFIN eer
    have hld : ∀ W, PtS w (some ⟨g, 0, none⟩) ucap C c f W → (evLoad (.pointer (some ⟨c, 0, none⟩))).run Tryz.prog W = .ok (.agg (evC f).toArray) W := fun W h => ev_load h.ev HF.out.prev
    have hbs := bsx_run f HF.out.prev
    have HTK : Hid (∀ W, PtS w (some ⟨g, 0, none⟩) ucap C c f W → EvSl W (.slice (some ⟨g, 0, none⟩) k k) (C.take k)) := Lib.hid (fun W h => h.sl.take HK.out k (Nat.le_refl _) (by have := HK.out; omega))
    have HLT : Hid (k < k + [f].length ∨ [f] = ([] : List Ev)) := Lib.hid (.inl (by simp))
    have HTL : Hid (∀ e ∈ C.take k, e.prev.length = 32) := Lib.hid (fun e he => (evs_len HCOK.out) e (List.mem_of_mem_take he))
    have HFL : Hid (∀ e ∈ [f], e.prev.length = 32) := Lib.hid (fun e he => by rw [List.mem_singleton] at he; subst he; exact HF.out.prev)
    have HSM : Hid (k + [f].length ≤ 1000000) := Lib.hid (by simp; have := HK.out; omega)
    have HOSL := Lib.hid (fun W => evOne_sl W f)
    have HKP : Hid (∀ W W', PtS w (some ⟨g, 0, none⟩) ucap C c f W → Only NoneOf W W' → PtS w (some ⟨g, 0, none⟩) ucap C c f W') := Lib.hid (fun W W' h ho => h.keep ho)
    have HAL : Hid (∀ W o, PtS w (some ⟨g, 0, none⟩) ucap C c f W → PtS w (some ⟨g, 0, none⟩) ucap C c f (W.alloc o)) := Lib.hid (fun W o h => h.keep ((Only.refl _ _).alloc o))
    have hS := HS.out.keep (Only.refl _ _).drew
    clear HS
    go_upto_region 12 with (fail)
    go_region_held3 (fun w' => PtS w (some ⟨g, 0, none⟩) ucap C c f w') (first | assumption | exact HAL.out _ _ (by assumption))
      (first
        | ((refine step_append_evs (by rfl) _ _ (by rfl) (some ⟨g, 0, none⟩) k k (by rfl) (C.take k) (HTK.out _ (by assumption)) _ (by rfl) [f] (by first | exact HOSL.out _ | exact (HOSL.out _).only (Only.refl _ _).drew) HLT.out HTL.out HFL.out HSM.out ?_); intro v' W' hsl' ho'; have hS' := HKP.out _ _ (by assumption) ho'; clear ho')
        | (go_at_call 20; refine (HCH.out _ _ (by assumption) (PtS.only (by assumption))).mono ?_; rintro e6 w6 ⟨a, rfl, ho6⟩; have hS6 := HKP.out _ _ (by assumption) ho6; clear ho6))
    have c3 : w6.cell? ⟨c, 3, none⟩ = some (.int .i64 f.time) := ev_cell hS6.ev 3
    by_cases hti : f.time < p.time
    · have h1 := HER.out
      rw [if_pos hti] at h1
      rw [h1]
      have hd : decide (f.time < p.time) = true := decide_eq_true hti
      clear h1
      go_wp2_with fail
      go_ret
      exact ⟨rfl, hS6.only⟩
    · have h1 := HER.out
      rw [if_neg hti] at h1
      rw [h1]
      have hd : decide (f.time < p.time) = false := decide_eq_false hti
      clear h1
      go_wp2_with fail
      go_ret
      exact ⟨rfl, hS6.only⟩
end Go.Proofs.YtclpebgjmgfigaaGreatDoor
