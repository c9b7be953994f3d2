/- What is proved here: the law on chains answers true. Conditions: the library's table reads as its initialiser lays it; names and texts are short. -/
import Derived.Test.YtclpebgjmgfigaaGreatDoorParts
import Derived.Deep.Cut
import Derived.BigRegion
namespace Go.Proofs.YtclpebgjmgfigaaGreatDoor
open Go.RowKit Go.Shelf
attribute [local go_sem ↓ high] evStore_eq evLoad_eq hLoad_eq hStore_eq
theorem mod_facts (x : Int) (n : Nat) (hn : 0 < n) (hm : n ≤ 1000000) : ∃ (r s : Int) (a : Nat), IntKind.i64.wrap (x.tmod (n : Int)) = r ∧ IntKind.i64.wrap (r + (n : Int)) = s ∧ IntKind.i64.wrap (s.tmod (n : Int)) = (a : Int) ∧ IntKind.i64.wrap r = r ∧ IntKind.i64.wrap s = s ∧ IntKind.i64.wrap (a : Int) = (a : Int) ∧ a < n ∧ (a : Int) = x % (n : Int) := by
  have hr1 : -(n : Int) < x.tmod n ∧ x.tmod n < n := ⟨Int.lt_tmod_of_pos x (by omega), Int.tmod_lt_of_pos x (by omega)⟩
  have h0 : 0 ≤ x % (n : Int) ∧ x % (n : Int) < n := ⟨Int.emod_nonneg x (by omega), Int.emod_lt_of_pos x (by omega)⟩
  have hr2 : x % (n : Int) = if x.tmod n < 0 then x.tmod n + n else x.tmod n := by
    rw [Int.tmod_eq_emod]
    split <;> split <;> omega
  have hr3 : (x.tmod n + n).tmod (n : Int) = x % (n : Int) := by
    rw [Int.tmod_eq_emod_of_nonneg (by omega), hr2]
    split
    · exact Int.emod_eq_of_lt (by omega) (by omega)
    · rw [Int.add_emod_right]; exact Int.emod_eq_of_lt (by omega) (by omega)
  refine ⟨x.tmod n, x.tmod n + n, (x % (n : Int)).toNat, IntWalk.i64_in _ (by omega), IntWalk.i64_in _ (by omega), ?_, IntWalk.i64_in _ (by omega), IntWalk.i64_in _ (by omega), IntWalk.i64_in _ (by omega), by omega, by omega⟩
  rw [hr3, show ((x % (n : Int)).toNat : Int) = x % (n : Int) by omega]
  exact IntWalk.i64_in _ (by omega)
theorem mod_wrap (x : Int) (n : Nat) (hn : 0 < n) (hm : n ≤ 1000000) : ∃ a : Nat, a < n ∧ (wrap64 (x.tmod (n : Int) + (n : Int))).tmod (n : Int) = (a : Int) := by
  obtain ⟨r, s, a, h1, h2, h3, h4, h5, h6, h7, h8⟩ := mod_facts x n hn hm
  have hr1 : -(n : Int) < x.tmod n ∧ x.tmod n < n := ⟨Int.lt_tmod_of_pos x (by omega), Int.tmod_lt_of_pos x (by omega)⟩
  have e1 : IntKind.i64.wrap (x.tmod (n : Int)) = x.tmod (n : Int) := IntWalk.i64_in _ (by omega)
  rw [e1] at h1
  subst h1
  refine ⟨a, h7, ?_⟩
  have e2 : wrap64 (x.tmod (n : Int) + (n : Int)) = s := (IntWalk.i64_left _).symm.trans h2
  rw [e2]
  have hs : 0 < s ∧ s < 2 * (n : Int) := by
    have e3 : IntKind.i64.wrap (x.tmod (n : Int) + (n : Int)) = x.tmod (n : Int) + (n : Int) := IntWalk.i64_in _ (by omega)
    rw [e3] at h2
    omega
  have e4 : IntKind.i64.wrap (s.tmod (n : Int)) = s.tmod (n : Int) := IntWalk.i64_in _ (by
    have := Int.tmod_lt_of_pos s (show (0 : Int) < n by omega)
    have := Int.lt_tmod_of_pos s (show (0 : Int) < n by omega)
    omega)
  rw [e4] at h3
  exact h3
theorem EvSl.drop {w : World} {g o n cap k : Nat} {L : List Ev} (h : EvSl w (.slice (some ⟨g, o, none⟩) n cap) L) (hk : k ≤ L.length) : EvSl w (.slice (some ⟨g, o + k * 46, none⟩) (n - k) (cap - k)) (L.drop k) := by
  obtain ⟨A', cap', hv, h1, h2, h3⟩ := h
  simp only [Value.slice.injEq] at hv
  obtain ⟨rfl, rfl, rfl⟩ := hv
  refine ⟨some ⟨g, o + k * 46, none⟩, cap - k, by rw [List.length_drop], by rw [List.length_drop]; omega, by omega, fun i e he => ?_⟩
  rw [List.getElem?_drop] at he
  obtain ⟨g', o', hA, hg, hr⟩ := h3 (k + i) e he
  simp only [Option.some.injEq, Addr.mk.injEq, and_true] at hA
  obtain ⟨rfl, rfl⟩ := hA
  refine ⟨g, o + k * 46, rfl, hg, ?_⟩
  rw [show o + k * 46 + i * 46 = o + (k + i) * 46 by omega]
  exact hr
theorem step_append_evs2 {o : Oper} {a : Act} {W : World} {ops : Array Oper} {K : Act → World → Prop} {Q : Exit → Act → World → Prop} {E : Prop} (hgd : o.guard = none) (s x : Operand) (ho : o.op = .call { callee := .builtin .append, args := #[s, x], argTypes := #[42, 42] })
    (A : Option Addr) (n cap : Nat) (hs : a.eval s = .slice A n cap) (X : List Ev) (hX : EvSl W (.slice A n cap) X) (yv : Value) (hx : a.eval x = yv) (Y : List Ev) (hY : EvSl W yv Y) (hg : cap < n + Y.length ∨ Y = []) (hXl : ∀ e ∈ X, e.prev.length = 32) (hYl : ∀ e ∈ Y, e.prev.length = 32) (hsm : n + Y.length ≤ 1000000) (M : Nat) (hM : (X ++ Y).length = M)
    (h : ∀ A' c' W', EvSl W' (.slice A' M c') (X ++ Y) → Only NoneOf W W' → K (a.put o.dst (.slice A' M c')) W') : if Region.wanted o (yielded ops a.tmps) = true then Oper.wp Tryz.prog o a W K Q else E := by
  refine step_append_evs hgd s x ho A n cap hs X hX yv hx Y hY hg hXl hYl hsm ?_
  intro v' W' h1 h2
  obtain ⟨A', c', rfl, h3⟩ := h1
  rw [hM]
  exact h A' c' W' ⟨A', c', by rw [hM], h3⟩ h2
set_option maxRecDepth 100000 in
set_option maxHeartbeats 4000000 in
theorem echain_law (v : Value) (L : List Ev) {w : World} (hv : EvSl w v L) (hok : ∀ e ∈ L, e.Ok) (hb : ∀ e ∈ L, e.name.size + e.text.size ≤ 1048576) (x0 x1 x2 x3 : Int) (_i0 : In x0) (i1 : In x1) (i2 : In x2) (_i3 : In x3) (_ : World) (hE : Env3 w) :
    Calls Tryz.prog 5 #[v, .agg #[.int .i64 x0, .int .i64 x1, .int .i64 x2, .int .i64 x3]] w fun e w' => e = .returned (.bool true) ∧ Only NoneOf w w' := by
  obtain ⟨ie, z, hie, hsz, hz, hzc, hby⟩ := ev_info3
  have hoks : EvsOk L := fun e he => ⟨hok e he, by have := hb e he; omega, by have := hb e he; omega⟩
  obtain ⟨q0, eq0⟩ : ∃ q, q = w.heap.size := ⟨_, rfl⟩
  have hA0 : Blk (w.alloc (.cells #[.int .i64 x0, .int .i64 x1, .int .i64 x2, .int .i64 x3] 43)) q0 43 #[.int .i64 x0, .int .i64 x1, .int .i64 x2, .int .i64 x3] ∧ Only NoneOf w (w.alloc (.cells #[.int .i64 x0, .int .i64 x1, .int .i64 x2, .int .i64 x3] 43)) := by
    rw [eq0]
    exact ⟨Blk.new w _ _, (Only.refl _ _).alloc _⟩
  have HA0 := Lib.hid hA0
  have HV := Lib.hid hv
  have HB := Lib.hid hb
  have HOKS := Lib.hid hoks
  have HE := Lib.hid hE
  have HIE := Lib.hid hie
  have HSZ := Lib.hid hsz
  have HZ := Lib.hid hz
  have HZC := Lib.hid hzc
  have HBY := Lib.hid hby
  have HQ0 := Lib.hid eq0
  have HI1 := Lib.hid i1
  have HI2 := Lib.hid i2
  clear hA0 hv hoks hE hie hsz hz hzc hby hok hb eq0 i1 i2
  go_enter Tryz.func5, Tryz.ntmps5
  go_upto_region 1 with (fail)
  rw [← HQ0.out]
  refine wp_gen (fun Z => Blk Z q0 43 #[.int .i64 x0, .int .i64 x1, .int .i64 x2, .int .i64 x3] ∧ Only NoneOf w Z) HA0.out ?_
  rintro Z0 ⟨hq, ho⟩
  have HQ := Lib.hid hq
  have HO := Lib.hid ho
  clear HA0 hq ho
  go_wp2_with fail
  refine (sanity_any Z0 (HE.out.none HO.out)).mono ?_
  rintro e1 w1 ⟨rfl, ho1⟩
  have HQ1 := Lib.hid (HQ.out.only ho1 (fun e => e))
  have HO1 := Lib.hid (HO.out.trans ho1)
  clear HQ HO ho1
  go_wp2_with fail
  refine (rlinked_any v L w1 (HV.out.only HO1.out) HOKS.out).mono ?_
  rintro e2 w2 ⟨u, rfl, hu, hcok, ho2⟩
  obtain ⟨C, eC⟩ : ∃ C, C = linkL L := ⟨_, rfl⟩
  rw [← eC] at hu hcok
  have hgo : Goes 0 zeros32 0 C := by rw [eC]; exact linkL_goes L
  have h30 : C.length ≤ 30 := by rw [eC]; exact linkL_len L
  have hsl := own_evsl hu (evs_len hcok)
  have hform := own_form' hu
  obtain ⟨uA, ucap, rfl, huc, hum⟩ := hform
  rw [maxLen_val] at hum
  have hsml : ∀ e ∈ C, e.name.size + e.text.size ≤ 1048576 := fun e he => by
    rw [eC] at he
    obtain ⟨e0, h0, h1, h2⟩ := linkL_mem he
    rw [h1, h2]; exact HB.out e0 h0
  have hcl : chainL C = (C.length, 0) := by
    have h1 := hgo.chain
    rw [Nat.zero_add] at h1
    exact h1
  obtain ⟨m0, em0⟩ : ∃ m, m = (chainL L).1 := ⟨_, rfl⟩
  obtain ⟨r0, er0⟩ : ∃ r, r = (chainL L).2 := ⟨_, rfl⟩
  have hc1 : ∀ W, Only NoneOf w2 W → Calls Tryz.prog 20 #[.slice uA C.length ucap] W fun e' w' => e' = .returned (.tuple #[.int .i64 (C.length : Int), .int .i64 0]) ∧ Only NoneOf W w' := fun W ho => by
    have h1 := echain_any _ C W (hsl.only ho) hcok (HE.out.tab.none ((HO1.out.trans ho2).trans ho))
    rw [hcl] at h1
    exact h1
  have hc2 : ∀ W, Only NoneOf w W → Calls Tryz.prog 20 #[v] W fun e' w' => e' = .returned (.tuple #[.int .i64 (m0 : Int), .int .i64 r0]) ∧ Only NoneOf W w' := fun W ho => by
    rw [em0, er0]
    exact echain_any v L W (HV.out.only ho) HOKS.out (HE.out.tab.none ho)
  have hc3 : ∀ W, Only NoneOf w W → Calls Tryz.prog 21 #[v] W fun e' w' => e' = .returned (.tuple #[.int .i64 (m0 : Int), .int .i64 r0]) ∧ Only NoneOf W w' := fun W ho => by
    rw [em0, er0]
    exact rchain_any v L W (HV.out.only ho) HOKS.out
  have HQ2 := Lib.hid (HQ1.out.only ho2 (fun e => e))
  have HO2 := Lib.hid (HO1.out.trans ho2)
  have HU : Hid (EvOwn w2 w.heap.size (.slice uA C.length ucap) C) := Lib.hid (own_base hu HO1.out.size)
  have HCOK := Lib.hid hcok
  have HSML := Lib.hid hsml
  have HC1 := Lib.hid hc1
  have HC2 := Lib.hid hc2
  have HC3 := Lib.hid hc3
  clear eC hgo hu hcok hsl ho2 HQ1 HO1 HB hsml hcl em0 er0 hc1 hc2 hc3
  go_wp2_with fail
  refine (HC1.out w2 (Only.refl _ _)).mono ?_
  rintro e3 w3 ⟨rfl, ho3⟩
  have HO3 := Lib.hid ho3
  clear ho3 HC1
  go_wp2_with fail
  refine (HC2.out w3 (HO2.out.trans HO3.out)).mono ?_
  rintro e4 w4 ⟨rfl, ho4⟩
  have HO4 := Lib.hid (HO3.out.trans ho4)
  clear ho4 HC2 HO3
  go_wp2_with fail
  refine (HC3.out w4 (HO2.out.trans HO4.out)).mono ?_
  rintro e5 w5 ⟨rfl, ho5⟩
  have HO5 := Lib.hid (HO4.out.trans ho5)
  clear ho5 HC3 HO4
  rcases Nat.eq_zero_or_pos C.length with hn | hn
  · have hn0 : ((C.length : Int) == 0) = true := by rw [hn]; rfl
    clear hn
    go_wp2_with fail
    go_ret
    exact ⟨rfl, HO2.out.trans HO5.out⟩
  · have hn0 : ((C.length : Int) == 0) = false := beq_eq_false_iff_ne.2 (by omega)
    have kn : ¬ (C.length : Int) = 0 := by omega
    obtain ⟨a, ha, hma⟩ := mod_wrap x0 C.length hn (by omega)
    obtain ⟨b, hbn, hmb⟩ := mod_wrap x3 C.length hn (by omega)
    have HMA := Lib.hid hma
    have HMB := Lib.hid hmb
    clear hma hmb
    have hu5 := HU.out.keep HO5.out
    obtain ⟨gc, capc, hgc, hgb, hgl, hgcap, hgm⟩ := EvOwn.form hu5 hn
    simp only [Value.slice.injEq, true_and] at hgc
    obtain ⟨rfl, rfl⟩ := hgc
    have hq5 := HQ2.out.only HO5.out (fun e => e)
    have c0 : w5.cell? ⟨q0, 0, none⟩ = some (.int .i64 x0) := hq5.cell 0
    have c3 : w5.cell? ⟨q0, 3, none⟩ = some (.int .i64 x3) := hq5.cell 3
    have HU5 := Lib.hid hu5
    have HQ5 := Lib.hid hq5
    have HOW5 := Lib.hid (HO2.out.trans HO5.out)
    clear hu5 hq5 HU HQ2 HO2 HO5
    go_upto_region 10 with (fail)
    go_quiet (fail)
    rw [HMA.out, HMB.out]
    clear c0 c3 hn0 HMA HMB
    go_upto_region 11 with (fail)
    refine wp_gen (fun Z => EvOwn Z w.heap.size (.slice (some ⟨gc, 0, none⟩) C.length ucap) C ∧ Blk Z q0 43 #[.int .i64 x0, .int .i64 x1, .int .i64 x2, .int .i64 x3] ∧ Only NoneOf w Z) ⟨HU5.out.keep ((Only.refl _ _).drewN nq), HQ5.out.drewN nq, HOW5.out.drewN nq⟩ ?_
    clear HU5 HQ5 HOW5
    rintro Z ⟨hZu, hZq, hZo⟩
    have hnews : ∀ j u, (C.flatMap evC)[j]? = some u → (Z.alloc (.cells #[] tEv)).cell? (Addr.add ⟨gc, 0, none⟩ j) = some u := (World.ownsRow.alloc hZu _).cells rfl
    have hmade : (Z.alloc (.cells #[] tEv)).ownsRow Z.heap.size tEv 46 (.slice (some ⟨Z.heap.size, 0, none⟩) 0 0) 0 [] := World.ownsRow_made Z #[] 0 (Nat.le_refl _) (by unfold maxLen; omega) rfl
    have hfl : (C.flatMap evC).length = C.length * 46 := flat_lenM (evs_len HCOK.out)
    have hone : ∀ u ∈ C.flatMap evC, u.oneCell' = true := fun u hu => by
      obtain ⟨e, _, he⟩ := List.mem_flatMap.1 hu
      exact evC_one e u he
    have hbb : (0 + C.length) * ie.bytes ≤ 140737488355328 := Nat.le_trans (Nat.mul_le_mul (show 0 + C.length ≤ 31 by omega) HBY.out) (by omega)
    have HZU := Lib.hid hZu
    have HZQ := Lib.hid hZq
    have HZO := Lib.hid hZo
    have HNEWS := Lib.hid hnews
    have HMADE := Lib.hid hmade
    have HFL := Lib.hid hfl
    have HONE := Lib.hid hone
    have HBB := Lib.hid hbb
    clear hZu hZq hZo hnews hmade hfl hone hbb
    go_upto_region 12 with (at_builtin; refine wpList_append_own _ rfl _ _ 42 rfl Z.heap.size tEv ie z 46 ie.bytes Tryz.underlying42 HIE.out HZ.out HSZ.out rfl HZC.out (by decide) (.slice (some ⟨Z.heap.size, 0, none⟩) 0 0) 0 [] rfl HMADE.out ⟨gc, 0, none⟩ C.length ucap (C.flatMap evC) rfl HFL.out HNEWS.out HONE.out (by rw [maxLen_val]; omega) HBB.out (by rw [World.size_alloc]; omega) ?_; intro v1 w6 hown6 hgrow _)
    obtain ⟨b1, eb1⟩ : ∃ b, b = Z.heap.size := ⟨_, rfl⟩
    have hgb1 : gc < b1 := by rw [eb1]; exact (own_ge HZU.out rfl).2
    have hqb1 : q0 < b1 := by rw [eb1]; exact HZQ.out.lt
    have hwb1 : w.heap.size ≤ b1 := by rw [eb1]; exact HZO.out.size
    have hZ6 : EvOwn w6 w.heap.size (.slice (some ⟨gc, 0, none⟩) C.length ucap) C ∧ EvOwn w6 b1 v1 C ∧ Blk w6 q0 43 #[.int .i64 x0, .int .i64 x1, .int .i64 x2, .int .i64 x3] ∧ Only NoneOf w w6 := by
      have hnb : ∀ g, g < b1 → some g ≠ (Value.slice (some ⟨Z.heap.size, 0, none⟩) 0 0).ownBlock := fun g hg h => by
        simp only [Value.ownBlock, Option.some.injEq] at h
        omega
      refine ⟨World.ownsRow.kept (World.ownsRow.alloc HZU.out _) hgrow (.inr (hnb gc hgb1)), ?_, (HZQ.out.alloc _).grown hgrow (hnb q0 hqb1), (HZO.out.alloc _).grown hgrow (fun j e => .inr ?_)⟩
      · rw [eb1]
        unfold EvOwn
        simpa using hown6
      · simp only [Value.ownBlock, Option.some.injEq] at e
        omega
    clear hown6 hgrow HZU HZQ HZO HNEWS HMADE eb1
    refine wp_gen (fun W => EvOwn W w.heap.size (.slice (some ⟨gc, 0, none⟩) C.length ucap) C ∧ EvOwn W b1 v1 C ∧ Blk W q0 43 #[.int .i64 x0, .int .i64 x1, .int .i64 x2, .int .i64 x3] ∧ Only NoneOf w W) hZ6 ?_
    clear hZ6
    rintro W6 ⟨hu6, hv6, hq6, ho6⟩
    obtain ⟨g1, cap1, rfl, hg1, hg1l, _, _⟩ := hv6.form hn
    obtain ⟨ca, hca⟩ : ∃ e, C[a]? = some e := ⟨_, List.getElem?_eq_getElem ha⟩
    obtain ⟨cb, hcb⟩ : ∃ e, C[b]? = some e := ⟨_, List.getElem?_eq_getElem hbn⟩
    have hcao := HCOK.out ca (List.mem_of_getElem? hca)
    have hcbo := HCOK.out cb (List.mem_of_getElem? hcb)
    obtain ⟨f, ef⟩ : ∃ f, f = bentE ca x1 x2 := ⟨_, rfl⟩
    have hfb : ∀ W, Calls Tryz.prog 22 #[.agg (evC ca).toArray, .agg #[.int .i64 x1, .int .i64 x2]] W fun e' w' => e' = .returned (.agg (evC f).toArray) ∧ Only NoneOf W w' := fun W => by rw [ef]; exact rbent_any ca hcao.1 hcao.2.1 hcao.2.2 x1 x2 HI1.out HI2.out W
    have hf : f.Ok := by rw [ef]; exact bentE_ok hcao.1 x1 x2
    have hfs : f.name.size ≤ 2097152 ∧ f.text.size ≤ 2097152 := by
      have h1 := bentE_size ca x1 x2
      rw [← ef] at h1
      have h2 := HSML.out ca (List.mem_of_getElem? hca)
      omega
    have k0 : (0 : Int) ≤ (a : Int) := by omega
    have ka : (a : Int) < (C.length : Int) := by omega
    have kb0 : (0 : Int) ≤ (b : Int) := by omega
    have kb : (b : Int) < (C.length : Int) := by omega
    have hl6 : (evLoad (.pointer (some ⟨g1, a * 46, none⟩))).run Tryz.prog W6.drew = .ok (.agg (evC ca).toArray) W6.drew := ev_load_at ((hv6.keep (Only.refl _ _).drew).range (evs_len HCOK.out) hca) hcao.1.prev
    have c1 : W6.cell? ⟨q0, 1, none⟩ = some (.int .i64 x1) := hq6.cell 1
    have c2 : W6.cell? ⟨q0, 2, none⟩ = some (.int .i64 x2) := hq6.cell 2
    have hst6 : ∀ W, EvOwn W b1 (.slice (some ⟨g1, 0, none⟩) C.length cap1) C → (evStore (.pointer (some ⟨g1, a * 46, none⟩)) (.agg (evC f).toArray)).run Tryz.prog W = .ok () (W.setCells g1 (a * 46) (evC f)) := fun W h => ev_store_own h ha hf.prev
    have HU6 := Lib.hid hu6
    have HV6 := Lib.hid hv6
    have HO6 := Lib.hid ho6
    have HCA := Lib.hid hca
    have HCB := Lib.hid hcb
    have HCAO := Lib.hid hcao
    have HCBO := Lib.hid hcbo
    have HFB := Lib.hid hfb
    have HF := Lib.hid hf
    have HFS := Lib.hid hfs
    have HST6 := Lib.hid hst6
    clear hu6 hv6 hq6 ho6 hca hcb hcao hcbo hfb hf hfs ef hst6
    have hst6' : ∀ W, EvOwn W b1 (.slice (some ⟨g1, 0, none⟩) C.length cap1) C → EvOwn (W.setCells g1 (a * 46) (evC f)) b1 (.slice (some ⟨g1, 0, none⟩) C.length cap1) (C.set a f) := fun W h => EvOwn.put h (evs_len HCOK.out) ha HF.out.prev
    have HPUT := Lib.hid hst6'
    clear hst6'
    go_cut [] from 84 (fun wx => EvOwn wx w.heap.size (.slice (some ⟨gc, 0, none⟩) C.length ucap) C ∧ EvOwn wx b1 (.slice (some ⟨g1, 0, none⟩) C.length cap1) (C.set a f) ∧ Only NoneOf w wx)
    case first =>
      go_region_with (go_at_call 22; refine (HFB.out _).mono ?_; rintro e7 w7 ⟨rfl, ho7⟩; have hst7 := HST6.out w7 (HV6.out.keep (only_of_drew ho7)); have HO7 := Lib.hid (only_of_drew ho7); clear ho7) -- X
      all_goals
        go_wp2_with fail
        go_meet
        case rel => exact ⟨own_farCells (HU6.out.keep HO7.out) (by simp [Value.ownBlock]; omega) _, HPUT.out _ (HV6.out.keep HO7.out), only_setCells (HO6.out.trans HO7.out) g1 _ (.inr (by omega)) _⟩
    case rest =>
    clear hl6 c1 c2 HU6 HV6 HO6 HFB HST6 HPUT
    obtain ⟨hu8, hv8, ho8⟩ := hcut
    have hnews : ∀ j u, (C.flatMap evC)[j]? = some u → (wc.alloc (.cells #[] tEv)).cell? (Addr.add ⟨gc, 0, none⟩ j) = some u := (World.ownsRow.alloc hu8 _).cells rfl
    have hmade : (wc.alloc (.cells #[] tEv)).ownsRow wc.heap.size tEv 46 (.slice (some ⟨wc.heap.size, 0, none⟩) 0 0) 0 [] := World.ownsRow_made wc #[] 0 (Nat.le_refl _) (by unfold maxLen; omega) rfl
    have HU8 := Lib.hid hu8
    have HV8 := Lib.hid hv8
    have HO8 := Lib.hid ho8
    have HNEWS := Lib.hid hnews
    have HMADE := Lib.hid hmade
    clear hu8 hv8 ho8 hnews hmade
    go_upto_region 14 with (at_builtin; refine wpList_append_own _ rfl _ _ 42 rfl wc.heap.size tEv ie z 46 ie.bytes Tryz.underlying42 HIE.out HZ.out HSZ.out rfl HZC.out (by decide) (.slice (some ⟨wc.heap.size, 0, none⟩) 0 0) 0 [] rfl HMADE.out ⟨gc, 0, none⟩ C.length ucap (C.flatMap evC) rfl HFL.out HNEWS.out HONE.out (by rw [maxLen_val]; omega) HBB.out (by rw [World.size_alloc]; omega) ?_; intro v2 w9 hown9 hgrow _)
    obtain ⟨b2, eb2⟩ : ∃ b, b = wc.heap.size := ⟨_, rfl⟩
    have hgb2 : gc < b2 := by rw [eb2]; exact (own_ge HU8.out rfl).2
    have hg12 : g1 < b2 := by rw [eb2]; exact (own_ge HV8.out rfl).2
    have hwb2 : w.heap.size ≤ b2 := by rw [eb2]; exact HO8.out.size
    have hZ9 : EvOwn w9 w.heap.size (.slice (some ⟨gc, 0, none⟩) C.length ucap) C ∧ EvOwn w9 b1 (.slice (some ⟨g1, 0, none⟩) C.length cap1) (C.set a f) ∧ EvOwn w9 b2 v2 C ∧ Only NoneOf w w9 := by
      have hnb : ∀ g, g < b2 → some g ≠ (Value.slice (some ⟨wc.heap.size, 0, none⟩) 0 0).ownBlock := fun g hg h => by
        simp only [Value.ownBlock, Option.some.injEq] at h
        omega
      refine ⟨World.ownsRow.kept (World.ownsRow.alloc HU8.out _) hgrow (.inr (hnb gc hgb2)), World.ownsRow.kept (World.ownsRow.alloc HV8.out _) hgrow (.inr (hnb g1 hg12)), ?_, (HO8.out.alloc _).grown hgrow (fun j e => .inr ?_)⟩
      · rw [eb2]
        unfold EvOwn
        simpa using hown9
      · simp only [Value.ownBlock, Option.some.injEq] at e
        omega
    clear hown9 hgrow HU8 HV8 HO8 HNEWS HMADE eb2
    refine wp_gen (fun W => EvOwn W w.heap.size (.slice (some ⟨gc, 0, none⟩) C.length ucap) C ∧ EvOwn W b1 (.slice (some ⟨g1, 0, none⟩) C.length cap1) (C.set a f) ∧ EvOwn W b2 v2 C ∧ Only NoneOf w W) hZ9 ?_
    clear hZ9
    rintro W9 ⟨hu9, hv9, hx9, ho9⟩
    obtain ⟨g2, cap2, rfl, hg2, hg2l, _, _⟩ := hx9.form hn
    have hl9 : (evLoad (.pointer (some ⟨g2, a * 46, none⟩))).run Tryz.prog W9.drew = .ok (.agg (evC ca).toArray) W9.drew := ev_load_at ((hx9.keep (Only.refl _ _).drew).range (evs_len HCOK.out) HCA.out) HCAO.out.1.prev
    have hl9b : (evLoad (.pointer (some ⟨g2, b * 46, none⟩))).run Tryz.prog W9.drew = .ok (.agg (evC cb).toArray) W9.drew := ev_load_at ((hx9.keep (Only.refl _ _).drew).range (evs_len HCOK.out) HCB.out) HCBO.out.1.prev
    have hx9a : EvOwn (W9.setCells g2 (a * 46) (evC cb)) b2 (.slice (some ⟨g2, 0, none⟩) C.length cap2) (C.set a cb) := EvOwn.put hx9 (evs_len HCOK.out) ha HCBO.out.1.prev
    have hst9 : (evStore (.pointer (some ⟨g2, a * 46, none⟩)) (.agg (evC cb).toArray)).run Tryz.prog W9.drew = .ok () (W9.drew.setCells g2 (a * 46) (evC cb)) := ev_store_own (hx9.keep (Only.refl _ _).drew) ha HCBO.out.1.prev
    have hl2 : ∀ e ∈ C.set a cb, e.prev.length = 32 := fun e he => by
      rcases List.mem_or_eq_of_mem_set he with h | rfl
      · exact evs_len HCOK.out e h
      · exact HCBO.out.1.prev
    have hab : b < (C.set a cb).length := by rw [List.length_set]; exact hbn
    have hx9c : EvOwn (W9.drew.setCells g2 (a * 46) (evC cb)) b2 (.slice (some ⟨g2, 0, none⟩) (C.set a cb).length cap2) (C.set a cb) := by
      have := EvOwn.put (hx9.keep (Only.refl _ _).drew) (evs_len HCOK.out) ha HCBO.out.1.prev
      rw [List.length_set]
      exact this
    have hst9b : (evStore (.pointer (some ⟨g2, b * 46, none⟩)) (.agg (evC ca).toArray)).run Tryz.prog (W9.drew.setCells g2 (a * 46) (evC cb)) = .ok () ((W9.drew.setCells g2 (a * 46) (evC cb)).setCells g2 (b * 46) (evC ca)) := ev_store_own hx9c hab HCAO.out.1.prev
    have hx9e : EvOwn ((W9.drew.setCells g2 (a * 46) (evC cb)).setCells g2 (b * 46) (evC ca)) b2 (.slice (some ⟨g2, 0, none⟩) C.length cap2) ((C.set a cb).set b ca) := by
      have := EvOwn.put hx9c hl2 hab HCAO.out.1.prev
      rw [List.length_set] at this
      exact this
    have HX9 := Lib.hid hx9e
    have HU9 := Lib.hid hu9
    have HV9 := Lib.hid hv9
    have HO9 := Lib.hid ho9
    clear hx9 hx9a hx9c hx9e hu9 hv9 ho9 hl2 hab
    go_cut [] from 100 (fun wx => EvOwn wx w.heap.size (.slice (some ⟨gc, 0, none⟩) C.length ucap) C ∧ EvOwn wx b1 (.slice (some ⟨g1, 0, none⟩) C.length cap1) (C.set a f) ∧ EvOwn wx b2 (.slice (some ⟨g2, 0, none⟩) C.length cap2) ((C.set a cb).set b ca) ∧ Only NoneOf w wx)
    case first =>
      go_region
      all_goals
        go_wp2_with fail
        go_meet
        case rel => exact ⟨own_farCells (own_farCells (HU9.out.keep (Only.refl _ _).drew) (by simp [Value.ownBlock]; omega) _) (by simp [Value.ownBlock]; omega) _, own_farCells (own_farCells (HV9.out.keep (Only.refl _ _).drew) (by simp [Value.ownBlock]; omega) _) (by simp [Value.ownBlock]; omega) _, HX9.out, only_setCells (only_setCells (HO9.out.trans (Only.refl _ _).drew) g2 _ (.inr (by omega)) _) g2 _ (.inr (by omega)) _⟩
    case rest =>
    clear hl9 hl9b hst9 hst9b HX9 HU9 HV9 HO9
    obtain ⟨hu10, hv10, hx10, ho10⟩ := hcut
    have hok1 : EvsOk (C.set a f) := fun e he => by
      rcases List.mem_or_eq_of_mem_set he with h | rfl
      · exact HCOK.out e h
      · exact ⟨HF.out, by have := HFS.out; omega, by have := HFS.out; omega⟩
    have hok2 : EvsOk ((C.set a cb).set b ca) := fun e he => by
      rcases List.mem_or_eq_of_mem_set he with h | rfl
      · rcases List.mem_or_eq_of_mem_set h with h | rfl
        · exact HCOK.out e h
        · exact HCBO.out
      · exact HCAO.out
    have hs0 : EvSl wc (.slice (some ⟨gc, 0, none⟩) C.length ucap) C := own_evsl hu10 (evs_len HCOK.out)
    have hs1 : EvSl wc (.slice (some ⟨g1, 0, none⟩) C.length cap1) (C.set a f) := own_evsl hv10 (evs_len hok1)
    have hs2 : EvSl wc (.slice (some ⟨g2, 0, none⟩) C.length cap2) ((C.set a cb).set b ca) := own_evsl hx10 (evs_len hok2)
    have hS : (EvSl wc (.slice (some ⟨gc, 0, none⟩) C.length ucap) C ∧ EvSl wc (.slice (some ⟨g1, 0, none⟩) C.length cap1) (C.set a f) ∧ EvSl wc (.slice (some ⟨g2, 0, none⟩) C.length cap2) ((C.set a cb).set b ca)) ∧ Only NoneOf w wc := ⟨⟨hs0, hs1, hs2⟩, ho10⟩
    obtain ⟨S, eS⟩ : ∃ S : World → Prop, S = fun W => (EvSl W (.slice (some ⟨gc, 0, none⟩) C.length ucap) C ∧ EvSl W (.slice (some ⟨g1, 0, none⟩) C.length cap1) (C.set a f) ∧ EvSl W (.slice (some ⟨g2, 0, none⟩) C.length cap2) ((C.set a cb).set b ca)) ∧ Only NoneOf w W := ⟨_, rfl⟩
    have hSS : S wc := by rw [eS]; exact hS
    have hKP : ∀ W W', S W → Only NoneOf W W' → S W' := by
      rw [eS]
      intro W W' h ho
      exact ⟨⟨h.1.1.only ho, h.1.2.1.only ho, h.1.2.2.only ho⟩, h.2.trans ho⟩
    have HKP := Lib.hid hKP
    have HAL : Hid (∀ W o, S W → S (W.alloc o)) := Lib.hid (fun W o h => hKP W _ h ((Only.refl _ _).alloc o))
    have HS0 : Hid (∀ W, S W → EvSl W (.slice (some ⟨gc, 0, none⟩) a a) (C.take a)) := Lib.hid (by rw [eS]; exact fun W h => h.1.1.take (by omega) a (Nat.le_refl _) (by omega))
    have HS3 : Hid (∀ W, S W → EvSl W (.slice (some ⟨gc, a * 46, none⟩) (C.length - a) (ucap - a)) (C.drop a)) := Lib.hid (by rw [eS]; exact fun W h => by have := h.1.1.drop (k := a) (by omega); rw [Nat.zero_add] at this; exact this)
    obtain ⟨Ax, hAx⟩ : ∃ Ax, (if ucap = a + 1 then (some ⟨gc, 0, none⟩ : Option Addr) else some ⟨gc, (a + 1) * 46, none⟩) = Ax := ⟨_, rfl⟩
    have HS4 : Hid (∀ W, S W → EvSl W (.slice Ax (C.length - (a + 1)) (ucap - (a + 1))) (C.drop (a + 1))) := Lib.hid (by
      rw [eS, ← hAx]
      intro W h
      have h1 := h.1.1.drop (k := a + 1) (by omega)
      rw [Nat.zero_add] at h1
      by_cases hu : ucap = a + 1
      · rw [if_pos hu]
        have h0 : C.drop (a + 1) = [] := List.drop_of_length_le (by omega)
        rw [h0]
        exact ⟨some ⟨gc, 0, none⟩, ucap - (a + 1), by rw [show C.length - (a + 1) = 0 by omega]; rfl, Nat.zero_le _, by omega, fun i e he => by simp at he⟩
      · rw [if_neg hu]; exact h1)
    have HSS : Hid (∀ W, S W → (EvSl W (.slice (some ⟨g1, 0, none⟩) C.length cap1) (C.set a f) ∧ EvSl W (.slice (some ⟨g2, 0, none⟩) C.length cap2) ((C.set a cb).set b ca)) ∧ Only NoneOf w W) := Lib.hid (by rw [eS]; exact fun W h => ⟨h.1.2, h.2⟩)
    have HLT : Hid (a < a + (C.drop (a + 1)).length ∨ C.drop (a + 1) = []) := Lib.hid (by
      by_cases h : a + 1 < C.length
      · left; rw [List.length_drop]; omega
      · right; exact List.drop_of_length_le (by omega))
    have HTL : Hid (∀ e ∈ C.take a, e.prev.length = 32) := Lib.hid (fun e he => (evs_len HCOK.out) e (List.mem_of_mem_take he))
    have HDL : Hid (∀ e ∈ C.drop (a + 1), e.prev.length = 32) := Lib.hid (fun e he => (evs_len HCOK.out) e (List.mem_of_mem_drop he))
    have HSM : Hid (a + (C.drop (a + 1)).length ≤ 1000000) := Lib.hid (by rw [List.length_drop]; omega)
    obtain ⟨M, eM⟩ : ∃ M, (C.take a ++ C.drop (a + 1)).length = M := ⟨_, rfl⟩
    have HM := Lib.hid eM
    clear eM
    have HOK1 := Lib.hid hok1
    have HOK2 := Lib.hid hok2
    have kw : IntKind.i64.wrap ((a : Int) + 1) = (a : Int) + 1 := IntWalk.i64_in _ (by omega)
    have kmin : min ((a : Int) + 1) (C.length : Int) = (a : Int) + 1 := by omega
    have km2 : (a : Int) + 1 ≤ (C.length : Int) := by omega
    have ku : (a : Int) ≤ (ucap : Int) := by omega
    have kle : (a : Int) ≤ (C.length : Int) := by omega
    have kua : ¬ ucap = a := by omega
    have kp : (0 : Int) ≤ (a : Int) + 1 := by omega
    have hSd := hKP _ _ hSS (Only.refl _ _).drew
    clear hu10 hv10 hx10 ho10 hs0 hs1 hs2 hS hok1 hok2 hSS hKP eS
    go_upto_region 15 with (fail)
    go_cut [131, 132, 133] from 114 (fun x y c wx => ∃ gL, x = .slice (some ⟨gL, 0, none⟩) 4 4 ∧ y = .int .i64 4 ∧ c = .int .i64 0 ∧ Only NoneOf w wx ∧ ∀ j : Nat, j < 4 → ∃ sv N, wx.cell? ⟨gL, j, none⟩ = some sv ∧ EvSl wx sv N ∧ EvsOk N)
    case first =>
      go_region_held3 (fun w' => S w') (first | assumption | exact HAL.out _ _ (by assumption)) (first | ((refine step_append_evs2 (by rfl) _ _ (by rfl) (some ⟨gc, 0, none⟩) a a (by rfl) (C.take a) (HS0.out _ (by assumption)) _ (by rfl) (C.drop (a + 1)) (HS4.out _ (by assumption)) HLT.out HTL.out HDL.out HSM.out M HM.out ?_); intro Av cv W' hsl' ho'; have hS' := HKP.out _ _ (by assumption) ho'; clear ho')) -- Y
      all_goals
        go_wp2_with fail
        go_meet
        case rel =>
          obtain ⟨gL, egL⟩ : ∃ g, g = W'.heap.size := ⟨_, rfl⟩
          rw [← egL]
          obtain ⟨WF, eWF⟩ : ∃ W, W = W'.alloc (.cells #[.slice (some ⟨g1, 0, none⟩) C.length cap1, .slice (some ⟨g2, 0, none⟩) C.length cap2, .slice (some ⟨gc, a * 46, none⟩) (C.length - a) (ucap - a), .slice Av M cv] 42) := ⟨_, rfl⟩
          have hblk : Blk WF gL 42 #[.slice (some ⟨g1, 0, none⟩) C.length cap1, .slice (some ⟨g2, 0, none⟩) C.length cap2, .slice (some ⟨gc, a * 46, none⟩) (C.length - a) (ucap - a), .slice Av M cv] := by
            rw [eWF, egL]; exact Blk.new _ _ _
          have hoF : Only NoneOf W' WF := by rw [eWF]; exact (Only.refl _ _).alloc _
          rw [← eWF]
          refine ⟨gL, rfl, rfl, rfl, (HSS.out _ hS').2.trans hoF, ?_⟩
          intro j hj
          have h1 := HSS.out _ hS'
          have hj4 : j = 0 ∨ j = 1 ∨ j = 2 ∨ j = 3 := by omega
          rcases hj4 with rfl | rfl | rfl | rfl
          · exact ⟨_, _, hblk.cell 0, h1.1.1.only hoF, HOK1.out⟩
          · exact ⟨_, _, hblk.cell 1, h1.1.2.only hoF, HOK2.out⟩
          · exact ⟨_, _, hblk.cell 2, (HS3.out _ hS').only hoF, fun e he => HCOK.out e (List.mem_of_mem_drop he)⟩
          · refine ⟨_, _, hblk.cell 3, hsl'.only hoF, fun e he => ?_⟩
            rcases List.mem_append.1 he with h | h
            · exact HCOK.out e (List.mem_of_mem_take h)
            · exact HCOK.out e (List.mem_of_mem_drop h)
    case rest =>
    obtain ⟨gL, rfl, rfl, rfl, hoW, hcells⟩ := hcut
    obtain ⟨WF, eWF⟩ : ∃ W, W = wc := ⟨_, rfl⟩
    rw [← eWF] at hoW hcells ⊢
    have HCE := Lib.hid hcells
    have HOW := Lib.hid hoW
    clear eWF hcells hoW HSS HS0 HS3 HS4 HAL HKP hSd hAx
    go_wp2_with fail
    go_loopw [133] (fun i W => ∃ j : Nat, i = .int .i64 j ∧ j ≤ 4 ∧ Only NoneOf WF W) (fun i _ => 4 - (intOf i).toNat)
    case atStart => exact ⟨0, rfl, by omega, Only.refl _ _⟩
    case round =>
      obtain ⟨j, rfl, hj4, hoj⟩ := hrel
      by_cases hj : j < 4
      · obtain ⟨sv, N, hc, hsv, hNok⟩ := HCE.out j hj
        have cj : wr.cell? ⟨gL, j, none⟩ = some sv := hoj.cell_some hc (fun e => e)
        obtain ⟨m1, em1⟩ : ∃ m, m = (chainL N).1 := ⟨_, rfl⟩
        obtain ⟨r1, er1⟩ : ∃ r, r = (chainL N).2 := ⟨_, rfl⟩
        have hd1 := fun W (h : Only NoneOf WF W) => echain_any sv N W (hsv.only h) hNok (HE.out.tab.none (HOW.out.trans h))
        have hd2 := fun W (h : Only NoneOf WF W) => rchain_any sv N W (hsv.only h) hNok
        rw [← em1, ← er1] at hd1 hd2
        have ik : (j : Int) < 4 := by omega
        have ik0 : (0 : Int) ≤ (j : Int) := by omega
        have HOJ := Lib.hid hoj
        have HD1 := Lib.hid hd1
        have HD2 := Lib.hid hd2
        clear hoj hc hsv hNok em1 er1 hd1 hd2
        go_wp2_with fail
        refine (HD1.out _ HOJ.out).mono ?_
        rintro e11 w11 ⟨rfl, ho11⟩
        have HO11 := Lib.hid (HOJ.out.trans ho11)
        clear ho11 cj
        go_wp2_with fail
        refine (HD2.out _ HO11.out).mono ?_
        rintro e12 w12 ⟨rfl, ho12⟩
        have HO12 := Lib.hid (HO11.out.trans ho12)
        clear ho12
        go_wp2_with fail
        go_roundw
        case rel => exact ⟨j + 1, by go_num, by omega, HO12.out⟩
        case measure => simp [intOf]; omega
      · obtain rfl : j = 4 := by omega
        have HOJ := Lib.hid hoj
        clear hoj
        go_wp2_with fail
        go_ret
        exact ⟨rfl, HOW.out.trans HOJ.out⟩
end Go.Proofs.YtclpebgjmgfigaaGreatDoor
