/- What is proved here: growth by lists of heads, and which heads agree, as the laws' reference tells. Conditions: roots have 32 bytes. -/
import Derived.Test.YtoehfainhmfghaaGreatDoorB3
import Derived.Test.YtoehfainhmfghaaGreatDoorN2
import Derived.BigQuiet
namespace Go.Proofs.YtoehfainhmfghaaGreatDoor
open Go.RowKit Go.Shelf
attribute [local go_sem ↓ high] hdLoad_eq
/-- A slice that reads as these heads. -/
def HdSl (w : World) (v : Value) (L : List Hd) : Prop :=
  ∃ A cap, v = .slice A L.length cap ∧ L.length ≤ cap ∧ cap ≤ 9223372036854775807 ∧ ∀ (i : Nat) (h : Hd), L[i]? = some h → ∃ g o, A = some ⟨g, o, none⟩ ∧ g < w.heap.size ∧ w.rangeAt g (o + i * 33) (hdC h)
theorem HdSl.only {w w' : World} {v : Value} {L : List Hd} (h : HdSl w v L) (ho : Only NoneOf w w') : HdSl w' v L := by
  obtain ⟨A, cap, hv, h1, h2, h3⟩ := h
  refine ⟨A, cap, hv, h1, h2, fun i p hp => ?_⟩
  obtain ⟨g, o, hA, hg, hr⟩ := h3 i p hp
  exact ⟨g, o, hA, Nat.lt_of_lt_of_le hg ho.size, rng_only hr ho⟩
/-- A slice that reads as these lists of heads. -/
def GlSl (w : World) (v : Value) (G : List (List Hd)) : Prop :=
  ∃ A cap, v = .slice A G.length cap ∧ G.length ≤ cap ∧ cap ≤ 9223372036854775807 ∧ ∀ (i : Nat) (l : List Hd), G[i]? = some l → ∃ g o lv, A = some ⟨g, o, none⟩ ∧ w.cell? ⟨g, o + i, none⟩ = some lv ∧ HdSl w lv l
theorem GlSl.only {w w' : World} {v : Value} {G : List (List Hd)} (h : GlSl w v G) (ho : Only NoneOf w w') : GlSl w' v G := by
  obtain ⟨A, cap, hv, h1, h2, h3⟩ := h
  refine ⟨A, cap, hv, h1, h2, fun i p hp => ?_⟩
  obtain ⟨g, o, lv, hA, hc, hr⟩ := h3 i p hp
  exact ⟨g, o, lv, hA, ho.cell_some hc (fun e => e), hr.only ho⟩
def GlOk (G : List (List Hd)) : Prop := ∀ l ∈ G, ∀ h ∈ l, h.root.length = 32
/-- What lies there while growth is looked for. -/
structure GoS (w : World) (B : Nat) (a b : Hd) (gv : Value) (G : List (List Hd)) (W : World) : Prop where
  a : HdAt W B a
  b : HdAt W (B + 1) b
  g : GlSl W gv G
  only : Only NoneOf w W
theorem GoS.keep {w : World} {B : Nat} {a b : Hd} {gv : Value} {G : List (List Hd)} {W W' : World} (h : GoS w B a b gv G W) (ho : Only NoneOf W W') : GoS w B a b gv G W' :=
  ⟨Blk.only h.a ho (fun e => e), Blk.only h.b ho (fun e => e), h.g.only ho, h.only.trans ho⟩
theorem growB_drop {G : List (List Hd)} {k : Nat} {l : List Hd} (h : G[k]? = some l) (a b : Hd) : growB (G.drop k) a b = (growRow a b false l || growB (G.drop (k + 1)) a b) := by
  have hlt := (List.getElem?_eq_some_iff.1 h).1
  have : G.drop k = l :: G.drop (k + 1) := by rw [List.drop_eq_getElem_cons hlt]; rw [List.getElem?_eq_getElem hlt] at h; rw [Option.some.inj h]
  rw [this]; rfl
theorem growRow_drop {l : List Hd} {m : Nat} {h : Hd} (hh : l[m]? = some h) (a b : Hd) (β : Bool) : growRow a b β (l.drop m) = ((β && eqHd h b) || growRow a b (β || eqHd h a) (l.drop (m + 1))) := by
  have hlt := (List.getElem?_eq_some_iff.1 hh).1
  have : l.drop m = h :: l.drop (m + 1) := by rw [List.drop_eq_getElem_cons hlt]; rw [List.getElem?_eq_getElem hlt] at hh; rw [Option.some.inj hh]
  rw [this]; rfl
set_option maxRecDepth 100000 in
set_option maxHeartbeats 4000000 in
theorem growth_any (G : List (List Hd)) (hG : GlOk G) (gv : Value) (a b : Hd) (ha : a.root.length = 32) (hb : b.root.length = 32) (w : World) (hs : GlSl w gv G) :
    Calls Tryz.prog 21 #[gv, .agg (hdC a).toArray, .agg (hdC b).toArray] w fun e w' => e = .returned (.bool (growB G a b)) ∧ Only NoneOf w w' := by
  obtain ⟨B, eB⟩ : ∃ B, B = w.heap.size := ⟨_, rfl⟩
  have hX : GoS w B a b gv G ((w.alloc (.cells (hdC a).toArray 25)).alloc (.cells (hdC b).toArray 25)) := by
    have h2 := Blk.new (w.alloc (.cells (hdC a).toArray 25)) tHd (hdC b).toArray
    rw [World.size_alloc, ← eB] at h2
    have ho : Only NoneOf w ((w.alloc (.cells (hdC a).toArray 25)).alloc (.cells (hdC b).toArray 25)) := ((Only.refl _ _).alloc _).alloc _
    exact ⟨by rw [eB]; exact (Blk.new w _ _).alloc _, h2, hs.only ho, ho⟩
  obtain ⟨A, cap, rfl, hlc, hcm, _⟩ := hs
  have HX := Lib.hid hX
  have HG := Lib.hid hG
  have EB := Lib.hid eB
  clear hX hG eB
  go_enter Tryz.func21, Tryz.ntmps21
  go_upto_region 1 with (fail)
  rw [← EB.out]
  refine wp_gen (GoS w B a b (.slice A G.length cap) G) HX.out ?_
  intro Y hY
  have HY := Lib.hid hY
  clear hY HX EB
  go_wp2_with fail
  go_loopw [7, 8, 9] (fun i _ _ wr => ∃ k : Nat, i = .int .i64 k ∧ k ≤ G.length ∧ growB G a b = growB (G.drop k) a b ∧ GoS w B a b (.slice A G.length cap) G wr) (fun i _ _ _ => G.length - (intOf i).toNat)
  case atStart => exact ⟨0, rfl, Nat.zero_le _, rfl, HY.out⟩
  case round =>
    obtain ⟨k, rfl, hk, hgr, hS⟩ := hrel
    have HS := Lib.hid hS
    have HGR := Lib.hid hgr
    clear hS hgr
    by_cases hlt : k < G.length
    · obtain ⟨l, hl⟩ : ∃ l, G[k]? = some l := ⟨_, List.getElem?_eq_getElem hlt⟩
      have hlm := HG.out l (List.mem_of_getElem? hl)
      have hgd := growB_drop hl a b
      have ik : (k : Int) < (G.length : Int) := by omega
      have ik0 : (0 : Int) ≤ (k : Int) := by omega
      obtain ⟨A', cap', hA', _, _, hr⟩ := HS.out.g
      obtain ⟨g, o, lv, hA2, hc, hls⟩ := hr k l hl
      simp only [Value.slice.injEq] at hA'
      obtain ⟨rfl, -, rfl⟩ := hA'
      subst hA2
      obtain ⟨A2, cap2, rfl, hlc2, hcm2, hr2⟩ := hls
      obtain ⟨wo, rfl⟩ : ∃ wo : World, wo = wr := ⟨_, rfl⟩
      have HL := Lib.hid hl
      have HLM := Lib.hid hlm
      have HGD := Lib.hid hgd
      have HR2 := Lib.hid hr2
      have HC := Lib.hid hc
      clear hr hr2 hl hlm hgd hc
      go_wp2_with fail
      go_loopw [8, 9] (fun s j wi => ∃ (m : Nat) (β : Bool), j = .int .i64 m ∧ m ≤ l.length ∧ s = .bool β ∧ growRow a b false l = growRow a b β (l.drop m) ∧ Only NoneOf wo wi) (fun _ j _ => l.length - (intOf j).toNat)
      case atStart => exact ⟨0, false, rfl, Nat.zero_le _, rfl, rfl, Only.refl _ _⟩
      case round =>
        obtain ⟨m, β, rfl, hm, rfl, hrow, ho⟩ := hrel
        have HROW := Lib.hid hrow
        have HO := Lib.hid ho
        have c0 : wr.cell? ⟨g, o + k, none⟩ = some (.slice A2 l.length cap2) := ho.cell_some HC.out (fun e => e)
        clear hrow ho
        by_cases hml : m < l.length
        · obtain ⟨h, hh⟩ : ∃ h, l[m]? = some h := ⟨_, List.getElem?_eq_getElem hml⟩
          obtain ⟨g3, o3, hA3, hg3, hrh⟩ := HR2.out m h hh
          subst hA3
          have hhl := HLM.out h (List.mem_of_getElem? hh)
          have hrd := growRow_drop hh a b β
          have im : (m : Int) < (l.length : Int) := by omega
          have im0 : (0 : Int) ≤ (m : Int) := by omega
          have r0 : ∀ n, (hdLoad (.pointer (some ⟨g3, o3 + m * 33, none⟩))).run Tryz.prog (wr.drewN n) = .ok (.agg (hdC h).toArray) (wr.drewN n) := fun n => hd_load (rng_only hrh (HO.out.drewN n)) hhl
          have hSi := HS.out.keep HO.out
          have r1 : ∀ n, (hdLoad (.pointer (some ⟨B, 0, none⟩))).run Tryz.prog (wr.drewN n) = .ok (.agg (hdC a).toArray) (wr.drewN n) := fun n => hd_load (blk_range (Blk.drewN hSi.a n)) ha
          have r2 : ∀ n, (hdLoad (.pointer (some ⟨B + 1, 0, none⟩))).run Tryz.prog (wr.drewN n) = .ok (.agg (hdC b).toArray) (wr.drewN n) := fun n => hd_load (blk_range (Blk.drewN hSi.b n)) hb
          have q1 := fun W => eql_hd h b hhl hb W
          have q2 := fun W => eql_hd h a hhl ha W
          obtain ⟨γ, eγ⟩ : ∃ γ, γ = eqHd h b := ⟨_, rfl⟩
          obtain ⟨δ, eδ⟩ : ∃ δ, δ = eqHd h a := ⟨_, rfl⟩
          rw [← eγ] at q1 hrd
          rw [← eδ] at q2 hrd
          have HRD := Lib.hid hrd
          have HOI := Lib.hid hSi.only
          clear hrd hh hrh hhl hSi eγ eδ
          cases β with
          | false =>
            have hn : growRow a b false l = growRow a b δ (l.drop (m + 1)) := by rw [HROW.out, HRD.out]; rfl
            have HN := Lib.hid hn
            clear hn
            go_upto_region 8 with (fail)
            go_quiet (fail)
            go_wp2_with fail
            go_quiet (fail)
            go_wp2_with fail
            go_roundw
            case rel => exact ⟨m + 1, δ, by go_num, by omega, rfl, HN.out, HO.out.drewN _⟩
            case measure => simp [intOf]; omega
          | true =>
            cases γ with
            | true =>
              have hf : growB G a b = true := by rw [HGR.out, HGD.out, HROW.out, HRD.out]; rfl
              have HF := Lib.hid hf
              clear hf
              go_upto_region 8 with (fail)
              go_quiet (fail)
              go_wp2_with fail
              go_ret
              exact ⟨ret_bool HF.out.symm, HOI.out.drewN _⟩
            | false =>
              have hn : growRow a b false l = growRow a b true (l.drop (m + 1)) := by rw [HROW.out, HRD.out]; rfl
              have HN := Lib.hid hn
              clear hn
              go_upto_region 8 with (fail)
              go_quiet (fail)
              go_wp2_with fail
              go_quiet (fail)
              go_wp2_with fail
              go_roundw
              case rel => exact ⟨m + 1, true, by go_num, by omega, rfl, HN.out, HO.out.drewN _⟩
              case measure => simp [intOf]; omega
        · obtain rfl : m = l.length := by omega
          have hrf : growB G a b = growB (G.drop (k + 1)) a b := by
            rw [HGR.out, HGD.out, HROW.out, List.drop_length]
            rfl
          have HRF := Lib.hid hrf
          have HSN := Lib.hid (HS.out.keep HO.out)
          clear hrf
          go_wp2_with fail
          go_roundw
          case rel => exact ⟨k + 1, by go_num, by omega, HRF.out, HSN.out⟩
          case measure => simp [intOf]; omega
    · obtain rfl : k = G.length := by omega
      have hf : growB G a b = false := by rw [HGR.out, List.drop_length]; rfl
      have HF := Lib.hid hf
      have HO := Lib.hid HS.out.only
      clear hf
      go_wp2_with fail
      go_ret
      exact ⟨ret_bool HF.out.symm, HO.out⟩
end Go.Proofs.YtoehfainhmfghaaGreatDoor
