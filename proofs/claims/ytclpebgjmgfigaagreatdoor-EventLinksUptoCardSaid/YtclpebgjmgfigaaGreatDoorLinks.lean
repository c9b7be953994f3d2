/- What is proved here: the law on one event of a chain replaced by another one answers true. Conditions: the library's table reads as its initialiser lays it; names and texts are short. -/
import Derived.Test.YtclpebgjmgfigaaGreatDoorOwnE
import Derived.Test.YtclpebgjmgfigaaGreatDoorClsh
import Derived.Test.YtclpebgjmgfigaaGreatDoorRch
import Derived.Test.YtclpebgjmgfigaaGreatDoorEvK
namespace Go.Proofs.YtclpebgjmgfigaaGreatDoor
open Go.RowKit Go.Shelf
attribute [local go_sem ↓ high] evStore_eq evLoad_eq hLoad_eq hStore_eq
/-- What the law keeps while it goes on. -/
structure LwS (w : World) (q : Nat) (x y : Int) (u : Value) (C : List Ev) (Z : World) : Prop where
  arr : Blk Z q 48 #[.int .i64 x, .int .i64 y]
  own : EvOwn Z w.heap.size u C
  only : Only NoneOf w Z
theorem LwS.keep {w Z Z' : World} {q : Nat} {x y : Int} {u : Value} {C : List Ev} (h : LwS w q x y u C Z) (ho : Only NoneOf Z Z') : LwS w q x y u C Z' :=
  ⟨h.arr.only ho (fun e => e), h.own.keep ho, h.only.trans ho⟩
set_option maxRecDepth 100000 in
set_option maxHeartbeats 4000000 in
theorem elinks_law (v : Value) (L : List Ev) {w : World} (hv : EvSl w v L) (hok : ∀ e ∈ L, e.Ok) (hb : ∀ e ∈ L, e.name.size + e.text.size ≤ 1048576) (m : Nat) (x y : Int) (ix : In x) (iy : In y) (hm : m < 256) (_ : World) (hE : Env3 w) :
    Calls Tryz.prog 6 #[v, .int .u8 (m : Int), .agg #[.int .i64 x, .int .i64 y]] w fun e w' => e = .returned (.bool true) ∧ Only NoneOf w w' := by
  obtain ⟨ie, z, hie, hsz, hz, hzc, hby⟩ := ev_info3
  have hoks : EvsOk L := fun e he => ⟨hok e he, by have := hb e he; omega, by have := hb e he; omega⟩
  obtain ⟨q0, eq0⟩ : ∃ q, q = w.heap.size := ⟨_, rfl⟩
  have hA0 : Blk (w.alloc (.cells #[.int .i64 x, .int .i64 y] 48)) q0 48 #[.int .i64 x, .int .i64 y] ∧ Only NoneOf w (w.alloc (.cells #[.int .i64 x, .int .i64 y] 48)) := by
    rw [eq0]
    exact ⟨Blk.new w _ _, (Only.refl _ _).alloc _⟩
  have HA0 := Lib.hid hA0
  have HV := Lib.hid hv
  have HB := Lib.hid hb
  have HOKS := Lib.hid hoks
  have HE := Lib.hid hE
  have HIE := Lib.hid hie
  have HSZ := Lib.hid hsz
  have HZ := Lib.hid hz
  have HZC := Lib.hid hzc
  have HBY := Lib.hid hby
  have HQ0 := Lib.hid eq0
  clear hA0 hv hoks hE hie hsz hz hzc hby hok hb eq0
  go_enter Tryz.func6, Tryz.ntmps6
  go_upto_region 1 with (fail)
  rw [← HQ0.out]
  refine wp_gen (fun Z => Blk Z q0 48 #[.int .i64 x, .int .i64 y] ∧ Only NoneOf w Z) HA0.out ?_
  rintro Z0 ⟨hq, ho⟩
  have HQ := Lib.hid hq
  have HO := Lib.hid ho
  clear HA0 hq ho
  go_wp2_with fail
  refine (sanity_any Z0 (HE.out.none HO.out)).mono ?_
  rintro e1 w1 ⟨rfl, ho1⟩
  have HQ1 := Lib.hid (HQ.out.only ho1 (fun e => e))
  have HO1 := Lib.hid (HO.out.trans ho1)
  clear HQ HO ho1
  go_wp2_with fail
  refine (rlinked_any v L w1 (HV.out.only HO1.out) HOKS.out).mono ?_
  rintro e2 w2 ⟨u, rfl, hu, hcok, ho2⟩
  obtain ⟨C, eC⟩ : ∃ C, C = linkL L := ⟨_, rfl⟩
  rw [← eC] at hu hcok
  have hgo : Goes 0 zeros32 0 C := by rw [eC]; exact linkL_goes L
  have h30 : C.length ≤ 30 := by rw [eC]; exact linkL_len L
  have hS : LwS w q0 x y u C w2 := ⟨HQ1.out.only ho2 (fun e => e), own_base hu HO1.out.size, HO1.out.trans ho2⟩
  have HS := Lib.hid hS
  have HGO := Lib.hid hgo
  have HCOK := Lib.hid hcok
  have hform := own_form' hu
  obtain ⟨uA, ucap, rfl, huc, hum⟩ := hform
  have hsml : ∀ e ∈ C, e.name.size + e.text.size ≤ 1048576 := fun e he => by
    rw [eC] at he
    obtain ⟨e0, h0, h1, h2⟩ := linkL_mem he
    rw [h1, h2]; exact HB.out e0 h0
  have HSML := Lib.hid hsml
  clear eC hgo hu hcok hS ho2 HQ1 HO1 hsml HB
  rcases Nat.eq_zero_or_pos C.length with hn | hn
  · have hn0 : ((C.length : Int) == 0) = true := by rw [hn]; rfl
    clear hn
    go_wp2_with fail
    go_ret
    exact ⟨rfl, HS.out.only⟩
  · have hn0 : ((C.length : Int) == 0) = false := beq_eq_false_iff_ne.2 (by omega)
    obtain ⟨gc, capc, hgc, hgb, hgl, hgcap, hgm⟩ := HS.out.own.form hn
    simp only [Value.slice.injEq, true_and] at hgc
    obtain ⟨rfl, rfl⟩ := hgc
    obtain ⟨k, ek⟩ : ∃ k, k = m % C.length := ⟨_, rfl⟩
    have hk : k < C.length := by rw [ek]; exact Nat.mod_lt _ hn
    obtain ⟨old, hold⟩ : ∃ e, C[k]? = some e := ⟨_, List.getElem?_eq_getElem hk⟩
    have kw1 : IntKind.i64.wrap (m : Int) = (m : Int) := IntWalk.i64_in _ (by omega)
    have kw2 : (m : Int).tmod (C.length : Int) = (k : Int) := by rw [ek]; rfl
    have kw3 : IntKind.i64.wrap (k : Int) = (k : Int) := IntWalk.i64_in _ (by omega)
    have kn : ¬ (C.length : Int) = 0 := by omega
    have ki : (k : Int) < (C.length : Int) := by omega
    have hold_ok := HCOK.out old (List.mem_of_getElem? hold)
    have hld := ev_load_at (HS.out.own.range (evs_len HCOK.out) hold) hold_ok.1.prev
    have hst := ev_store_new w2 hold_ok.1.prev
    unfold zeroEv at hst
    dsimp only at hst
    have HK := Lib.hid hk
    have HOLD := Lib.hid hold
    have HOO := Lib.hid hold_ok
    have HGB := Lib.hid hgb
    have HGL := Lib.hid hgl
    clear hk hold hold_ok hgb hgl ek
    go_upto_region 7 with (fail)
    obtain ⟨B, eB⟩ : ∃ B, B = w2.heap.size := ⟨_, rfl⟩
    have hBw : w.heap.size ≤ B := by rw [eB]; exact HS.out.only.size
    have hqB : q0 < B := by rw [eB]; exact HS.out.arr.lt
    have hgB : gc < B := by rw [eB]; exact HGL.out
    have hZ0 : EvAt ((w2.alloc (.cells (evC blank0).toArray tEv)).setCells B 0 (evC old)) B old ∧ LwS w q0 x y (.slice (some ⟨gc, 0, none⟩) C.length ucap) C ((w2.alloc (.cells (evC blank0).toArray tEv)).setCells B 0 (evC old)) := by
      have hn6 := Blk.new w2 tEv (evC blank0).toArray
      rw [← eB] at hn6
      refine ⟨setCells_own hn6 (by rw [evC_len HOO.out.1.prev]; rfl), (HS.out.arr.alloc _).farCells (by omega) _ 0, own_farCells (HS.out.own.alloc _) (by simp [Value.ownBlock]; omega) _, only_setCells (HS.out.only.alloc _) B 0 (.inr hBw) _⟩
    rw [← eB]
    refine wp_gen (fun Z => EvAt Z B old ∧ LwS w q0 x y (.slice (some ⟨gc, 0, none⟩) C.length ucap) C Z) hZ0 ?_
    rintro Z ⟨hZe, hZs⟩
    have hnews : ∀ j u, (C.flatMap evC)[j]? = some u → (Z.alloc (.cells #[] tEv)).cell? (Addr.add ⟨gc, 0, none⟩ j) = some u := (hZs.own.alloc _).cells rfl
    have hmade : (Z.alloc (.cells #[] tEv)).ownsRow Z.heap.size tEv 46 (.slice (some ⟨Z.heap.size, 0, none⟩) 0 0) 0 [] := World.ownsRow_made Z #[] 0 (Nat.le_refl _) (by unfold maxLen; omega) rfl
    have hfl : (C.flatMap evC).length = C.length * 46 := flat_lenM (evs_len HCOK.out)
    have hone : ∀ u ∈ C.flatMap evC, u.oneCell' = true := fun u hu => by
      obtain ⟨e, _, he⟩ := List.mem_flatMap.1 hu
      exact evC_one e u he
    have hbb : (0 + C.length) * ie.bytes ≤ 140737488355328 := Nat.le_trans (Nat.mul_le_mul (show 0 + C.length ≤ 31 by omega) HBY.out) (by omega)
    have HZE := Lib.hid hZe
    have HZS := Lib.hid hZs
    have HNEWS := Lib.hid hnews
    have HMADE := Lib.hid hmade
    have HFL := Lib.hid hfl
    have HONE := Lib.hid hone
    have HBB := Lib.hid hbb
    clear hZe hZs hnews hmade hfl hone hbb hZ0 hld hst eB HS
    go_upto_region 8 with (at_builtin; refine wpList_append_own _ rfl _ _ 42 rfl Z.heap.size tEv ie z 46 ie.bytes Tryz.underlying42 HIE.out HZ.out HSZ.out rfl HZC.out (by decide) (.slice (some ⟨Z.heap.size, 0, none⟩) 0 0) 0 [] rfl HMADE.out ⟨gc, 0, none⟩ C.length ucap (C.flatMap evC) rfl HFL.out HNEWS.out HONE.out (by rw [maxLen_val]; omega) HBB.out (by rw [World.size_alloc]; omega) ?_; intro v' w3 hown3 hgrow _)
    have hlt3 : Z.heap.size ≤ w3.heap.size := by have := hgrow.size; rw [World.size_alloc] at this; omega
    obtain ⟨b2, eb2⟩ : ∃ b2, b2 = Z.heap.size := ⟨_, rfl⟩
    have hBb : B < b2 := by rw [eb2]; exact HZE.out.lt
    have hwb : w.heap.size ≤ b2 := by omega
    have hown4 : EvOwn w3 b2 v' C := by
      rw [eb2]
      unfold EvOwn
      simpa using hown3
    have hnb : ∀ g, g < b2 → some g ≠ (Value.slice (some ⟨Z.heap.size, 0, none⟩) 0 0).ownBlock := fun g hg h => by
      simp only [Value.ownBlock, Option.some.injEq] at h
      omega
    have hZ3 : EvAt w3 B old ∧ Blk w3 q0 48 #[.int .i64 x, .int .i64 y] ∧ EvOwn w3 b2 v' C ∧ Only NoneOf w w3 := by
      refine ⟨(HZE.out.alloc _).grown hgrow (hnb B hBb), (HZS.out.arr.alloc _).grown hgrow (hnb q0 (by omega)), hown4, (HZS.out.only.alloc _).grown hgrow (fun j e => .inr ?_)⟩
      simp only [Value.ownBlock, Option.some.injEq] at e
      omega
    clear hown3 hgrow hown4 hnb hlt3 eb2
    refine wp_gen (fun Z => EvAt Z B old ∧ Blk Z q0 48 #[.int .i64 x, .int .i64 y] ∧ EvOwn Z b2 v' C ∧ Only NoneOf w Z) hZ3 ?_
    clear hZ3 HZE HZS HNEWS HMADE
    rintro Z3 ⟨hE3, hq3, hown4, ho3⟩
    obtain ⟨gd, capd, rfl, hgd, hgdl, hcd, hcdm⟩ := hown4.form hn
    have hl3 := ev_load hE3 HOO.out.1.prev
    have c0 : Z3.cell? ⟨q0, 0, none⟩ = some (.int .i64 x) := hq3.cell 0
    have c1 : Z3.cell? ⟨q0, 1, none⟩ = some (.int .i64 y) := hq3.cell 1
    obtain ⟨f, ef⟩ : ∃ f, f = bentE old x y := ⟨_, rfl⟩
    have hfb : ∀ W, Calls Tryz.prog 22 #[.agg (evC old).toArray, .agg #[.int .i64 x, .int .i64 y]] W fun e' w' => e' = .returned (.agg (evC f).toArray) ∧ Only NoneOf W w' := fun W => by rw [ef]; exact rbent_any old HOO.out.1 HOO.out.2.1 HOO.out.2.2 x y ix iy W
    have hf : f.Ok := by rw [ef]; exact bentE_ok HOO.out.1 x y
    have HFB := Lib.hid hfb
    have HEF := Lib.hid ef
    have HF := Lib.hid hf
    have HE3 := Lib.hid hE3
    have HOWN4 := Lib.hid hown4
    have HO3 := Lib.hid ho3
    clear hE3 hq3 hown4 ho3 hfb hf hcd hcdm ef
    go_wp2_with fail
    refine (HFB.out _).mono ?_
    rintro e4 w4 ⟨rfl, ho4⟩
    have hsf : f.name.size ≤ 2097152 ∧ f.text.size ≤ 2097152 := by
      have h1 := bentE_size old x y
      rw [← HEF.out] at h1
      have h2 := HSML.out old (List.mem_of_getElem? HOLD.out)
      omega
    have hown4 := HOWN4.out.keep ho4
    have hst4 := ev_store_own hown4 HK.out HF.out.prev
    have hZ5 : EvAt (w4.setCells gd (k * 46) (evC f)) B old ∧ EvOwn (w4.setCells gd (k * 46) (evC f)) b2 (.slice (some ⟨gd, 0, none⟩) C.length capd) (C.set k f) ∧ Only NoneOf w (w4.setCells gd (k * 46) (evC f)) :=
      ⟨(HE3.out.only ho4 (fun e => e)).farCells (by omega) _ _, hown4.put (evs_len HCOK.out) HK.out HF.out.prev, only_setCells (HO3.out.trans ho4) gd _ (.inr (by omega)) _⟩
    have HZ5 := Lib.hid hZ5
    clear hZ5 hown4 ho4 HOWN4 HO3 HE3 hl3 c0 c1 HFB
    go_upto_region 9 with (fail)
    refine wp_gen (fun Z => EvAt Z B old ∧ EvOwn Z b2 (.slice (some ⟨gd, 0, none⟩) C.length capd) (C.set k f) ∧ Only NoneOf w Z) HZ5.out ?_
    clear HZ5 hst4
    rintro Z5 ⟨hE5, hown5, ho5⟩
    have hok5 : EvsOk (C.set k f) := fun e he => by
      rcases List.mem_or_eq_of_mem_set he with h | rfl
      · exact HCOK.out e h
      · exact ⟨HF.out, by omega, by omega⟩
    have hsl5 := own_evsl hown5 (evs_len hok5)
    -- what the chain's end says
    obtain ⟨a, ea⟩ : ∃ a, a = (chainL (C.set k f)).1 := ⟨_, rfl⟩
    obtain ⟨er, eer⟩ : ∃ r, r = (chainL (C.set k f)).2 := ⟨_, rfl⟩
    have hch := fun W (hs : EvSl W (.slice (some ⟨gd, 0, none⟩) C.length capd) (C.set k f)) (ht : Tab W) => echain_any _ _ W hs hok5 ht
    rw [← ea, ← eer] at hch
    have hsplit : C = C.take k ++ old :: C.drop (k + 1) := by
      have h1 := List.take_append_drop k C
      rw [List.drop_eq_getElem_cons HK.out] at h1
      have h2 := HOLD.out
      rw [List.getElem?_eq_getElem HK.out, Option.some.injEq] at h2
      rw [h2] at h1
      exact h1.symm
    have hset : C.set k f = C.take k ++ f :: C.drop (k + 1) := by rw [List.set_eq_take_append_cons_drop, if_pos HK.out]
    have htl : (C.take k).length = k := by rw [List.length_take]; have := HK.out; omega
    have hrep : (a = C.length ∧ er = 0 ∧ (k + 1 = C.length ∨ hashE old = hashE f)) ∨ (er ≠ 0 ∧ (a = k ∨ a = k + 1)) := by
      have h1 := HGO.out
      rw [hsplit] at h1
      have h2 := chain_replaced (new := f) h1
      rw [← hset, htl] at h2
      unfold chainL at ea eer
      rw [← ea, ← eer] at h2
      rcases h2 with ⟨h2, h3⟩ | ⟨h2, h3⟩
      · rw [h2] at ea eer
        left
        refine ⟨by rw [ea]; simp, eer, ?_⟩
        rcases h3 with h3 | h3
        · left
          have h4 := congrArg List.length h3
          rw [List.length_drop] at h4
          have h5 := HK.out
          simp only [List.length_nil] at h4
          omega
        · right; exact h3
      · right
        exact ⟨h2, by omega⟩
    have hsame : sameE f old = true → a = C.length ∧ er = 0 := fun h => by
      have h1 := sameE_true.1 h
      have h2 : C.set k f = C := by rw [hset, h1, ← hsplit]
      have h3 := HGO.out.chain
      rw [h2] at ea eer
      unfold chainL at ea eer
      rw [h3] at ea eer
      exact ⟨by rw [ea]; simp, eer⟩
    have HREP := Lib.hid hrep
    have HSAME := Lib.hid hsame
    have HCH := Lib.hid hch
    have HE5 := Lib.hid hE5
    have HOWN5 := Lib.hid hown5
    have HO5 := Lib.hid ho5
    have HSL5 := Lib.hid hsl5
    have HOK5 := Lib.hid hok5
    clear ea eer hsplit hset htl hrep hsame hch hE5 hown5 ho5 hsl5 hok5
    go_wp2_with fail
    refine (HCH.out Z5 HSL5.out (HE.out.tab.none HO5.out)).mono ?_
    rintro e6 w6 ⟨rfl, ho6⟩
    have hl6 : ∀ q, (evLoad (.pointer (some ⟨B, 0, none⟩))).run Tryz.prog (w6.drewN q) = .ok (.agg (evC old).toArray) (w6.drewN q) := fun q => ev_load (HE5.out.only (ho6.drewN q) (fun e => e)) HOO.out.1.prev
    have hl7 : ∀ q, (evLoad (.pointer (some ⟨gd, k * 46, none⟩))).run Tryz.prog (w6.drewN q) = .ok (.agg (evC f).toArray) (w6.drewN q) := fun q => ev_load_at ((HOWN5.out.keep (ho6.drewN q)).range (evs_len HOK5.out) (by rw [List.getElem?_set_self]; exact HK.out)) HF.out.prev
    obtain ⟨sm, esm⟩ : ∃ sm, sm = sameE f old := ⟨_, rfl⟩
    have zeq := fun W => eql_ev f old HF.out.prev HOO.out.1.prev W
    rw [← esm] at zeq HSAME
    have HO6 := Lib.hid ho6
    have HSM := Lib.hid esm
    have k0 : (0 : Int) ≤ (k : Int) := by omega
    clear ho6 esm HCH
    go_upto_region 10 with (fail)
    go_quiet (fail)
    have hO7 := HO5.out.trans (HO6.out.drewN nq)
    have hE7 := HE5.out.only (HO6.out.drewN nq) (fun e => e)
    have hown7 := HOWN5.out.keep (HO6.out.drewN nq)
    obtain ⟨w7, ew7⟩ : ∃ w7, w7 = w6.drewN nq := ⟨_, rfl⟩
    rw [← ew7] at hO7 hE7 hown7 ⊢
    have HO7 := Lib.hid hO7
    have HE7 := Lib.hid hE7
    have HOWN7 := Lib.hid hown7
    clear hO7 hE7 hown7 ew7 hl6 hl7 zeq HO6 HO5 HE5 HOWN5 HSL5
    cases sm with
    | true =>
      obtain ⟨ha, he0⟩ := HSAME.out rfl
      rw [ha, he0]
      clear ha he0 HSM HSAME
      go_wp2_with fail
      go_ret
      exact ⟨rfl, HO7.out⟩
    | false =>
      have hne : f ≠ old := fun h => by
        have h1 := HSM.out
        rw [sameE_true.2 h] at h1
        cases h1
      by_cases he0 : er = 0
      · rcases HREP.out with ⟨ha, _, hor⟩ | ⟨h, _⟩
        · rw [ha, he0]
          by_cases hkl : k + 1 = C.length
          · have kwm : IntKind.i64.wrap ((C.length : Int) - 1) = (k : Int) := by rw [show (C.length : Int) - 1 = (k : Int) by omega]; exact kw3
            clear ha he0 HSM HSAME HREP hor hkl hne
            go_upto_region 13 with (fail)
            go_quiet (fail)
            go_wp2_with fail
            go_ret
            exact ⟨rfl, HO7.out.drewN _⟩
          · have hh : hashE old = hashE f := by
              rcases hor with h | h
              · exact absurd h hkl
              · exact h
            obtain ⟨n1, en1⟩ : ∃ n1, n1 = C.length - 1 := ⟨_, rfl⟩
            have kwm : IntKind.i64.wrap ((C.length : Int) - 1) = (n1 : Int) := by rw [show (C.length : Int) - 1 = (n1 : Int) by omega]; exact IntWalk.i64_in _ (by omega)
            have kne : ((k : Int) == (n1 : Int)) = false := beq_eq_false_iff_ne.2 (by have := HK.out; omega)
            have hfk := HOK5.out f (by
              have h1 : (C.set k f)[k]? = some f := by rw [List.getElem?_set_self]; exact HK.out
              exact List.mem_of_getElem? h1)
            obtain ⟨A1, hA1⟩ : ∃ A : ByteArray, A.data.toList = evCode old := ⟨⟨(evCode old).toArray⟩, by simp⟩
            obtain ⟨A2, hA2⟩ : ∃ A : ByteArray, A.data.toList = evCode f := ⟨⟨(evCode f).toArray⟩, by simp⟩
            have s1 : A1.size ≤ 35184372088832 := by rw [size_list, hA1]; exact Nat.le_trans (evCode_len HOO.out.1 HOO.out.2.1 HOO.out.2.2) (by omega)
            have s2 : A2.size ≤ 35184372088832 := by rw [size_list, hA2]; exact Nat.le_trans (evCode_len hfk.1 hfk.2.1 hfk.2.2) (by omega)
            have hcne : A1.data.toList ≠ A2.data.toList := fun h => by
              rw [hA1, hA2] at h
              have h1 := HSML.out old (List.mem_of_getElem? HOLD.out)
              refine hne (evCode_inj HOO.out.1 hfk.1 ?_ ?_ ?_ ?_ h).symm <;> rw [← size_list] <;> constructor <;> omega
            have hceq : shaL A1.data.toList = shaL A2.data.toList := by rw [hA1, hA2]; exact hh
            have f1 : ∀ W, Only NoneOf w W → Calls Tryz.prog 13 #[.agg (evC old).toArray] W (fun e' w' => e' = .returned (.string A1) ∧ Only NoneOf W w') := fun W ho => (eencode_any old HOO.out.1 HOO.out.2.1 HOO.out.2.2 W (HE.out.tab.none ho)).mono (by rintro e' w' ⟨t, rfl, ht, ho⟩; exact ⟨by rw [bytes_ext (ht.trans hA1.symm)], ho⟩)
            have f2 : ∀ W, Only NoneOf w W → Calls Tryz.prog 13 #[.agg (evC f).toArray] W (fun e' w' => e' = .returned (.string A2) ∧ Only NoneOf W w') := fun W ho => (eencode_any f hfk.1 hfk.2.1 hfk.2.2 W (HE.out.tab.none ho)).mono (by rintro e' w' ⟨t, rfl, ht, ho⟩; exact ⟨by rw [bytes_ext (ht.trans hA2.symm)], ho⟩)
            have f3 : ∀ g W, StrsAt W g 0 [A1, A2] → Calls Tryz.prog 23 #[.slice (some ⟨g, 0, none⟩) 2 2] W (fun e' w' => e' = .returned (.bool true) ∧ Only NoneOf W w') := fun g W hs => rclash_yes A1 A2 s1 s2 hcne hceq g W hs
            have hS7 : EvAt w7 B old ∧ w7.rangeAt gd (k * 46) (evC f) ∧ Only NoneOf w w7 := ⟨HE7.out, HOWN7.out.range (evs_len HOK5.out) (by rw [List.getElem?_set_self]; exact HK.out), HO7.out⟩
            have hl8 : ∀ W, EvAt W B old ∧ W.rangeAt gd (k * 46) (evC f) ∧ Only NoneOf w W → (evLoad (.pointer (some ⟨B, 0, none⟩))).run Tryz.prog W = .ok (.agg (evC old).toArray) W := fun W h => ev_load h.1 HOO.out.1.prev
            have hl9 : ∀ W, EvAt W B old ∧ W.rangeAt gd (k * 46) (evC f) ∧ Only NoneOf w W → (evLoad (.pointer (some ⟨gd, k * 46, none⟩))).run Tryz.prog W = .ok (.agg (evC f).toArray) W := fun W h => ev_load_at h.2.1 HF.out.prev
            have hkeep : ∀ W W', EvAt W B old ∧ W.rangeAt gd (k * 46) (evC f) ∧ Only NoneOf w W → Only NoneOf W W' → EvAt W' B old ∧ W'.rangeAt gd (k * 46) (evC f) ∧ Only NoneOf w W' := fun W W' h ho => ⟨h.1.only ho (fun e => e), range_only h.2.1 ho, h.2.2.trans ho⟩
            have HALLOC : Hid (∀ W o, EvAt W B old ∧ W.rangeAt gd (k * 46) (evC f) ∧ Only NoneOf w W → EvAt (W.alloc o) B old ∧ (W.alloc o).rangeAt gd (k * 46) (evC f) ∧ Only NoneOf w (W.alloc o)) := Lib.hid (fun W o h => hkeep W _ h ((Only.refl _ _).alloc o))
            have HKEEP := Lib.hid hkeep
            have F1 := Lib.hid f1
            have F2 := Lib.hid f2
            have F3 := Lib.hid f3
            have hS7d := hkeep _ _ hS7 (Only.refl _ _).drew
            clear ha he0 HSM HSAME HREP hor hkl hne hh f1 f2 f3 hA1 hA2 s1 s2 hcne hceq hfk hkeep hS7 en1
            go_upto_region 13 with (fail)
            go_region_held3 (fun w' => EvAt w' B old ∧ w'.rangeAt gd (k * 46) (evC f) ∧ Only NoneOf w w') (first | assumption | exact HALLOC.out _ _ (by assumption))
              (first
                | (go_at_call 13; (with_reducible refine (F1.out _ (And.right (And.right (by assumption)))).mono ?_); rintro e2 w2 ⟨rfl, ho2⟩; have hS2 := HKEEP.out _ _ (by assumption) ho2; clear ho2)
                | (go_at_call 13; (with_reducible refine (F2.out _ (And.right (And.right (by assumption)))).mono ?_); rintro e2 w2 ⟨rfl, ho2⟩; have hS2 := HKEEP.out _ _ (by assumption) ho2; clear ho2)
                | (go_at_call 23; refine (F3.out _ _ (by first | exact strs_of (Blk.new _ _ _) | exact strs_of (Blk.new _ _ _).drew)).mono ?_; rintro e5 w5 ⟨rfl, ho5⟩; have hS5 := HKEEP.out _ _ (by assumption) ho5; clear ho5))
            all_goals
              go_wp2_with fail
              go_ret
              exact ⟨rfl, hS5.2.2⟩
        · exact absurd he0 h
      · have her : (er == 0) = false := beq_eq_false_iff_ne.2 he0
        rcases HREP.out with ⟨_, h, _⟩ | ⟨_, h⟩
        · exact absurd h he0
        · have kw4 : IntKind.i64.wrap ((k : Int) + 1) = (k : Int) + 1 := IntWalk.i64_in _ (by omega)
          have kne : ((k : Int) + 1 == (k : Int)) = false := beq_eq_false_iff_ne.2 (by omega)
          rcases h with h | h
          · rw [h]
            clear he0 HSM HSAME HREP hne h
            go_wp2_with fail
            go_ret
            exact ⟨rfl, HO7.out⟩
          · rw [h, show ((k + 1 : Nat) : Int) = (k : Int) + 1 by omega]
            clear he0 HSM HSAME HREP hne h
            go_wp2_with fail
            go_ret
            exact ⟨rfl, HO7.out⟩
end Go.Proofs.YtclpebgjmgfigaaGreatDoor
