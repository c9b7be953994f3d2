/- What is proved here: several parts. the votes that the client has not yet seen are picked out. Conditions: the votes' numbers are ints, their roots have 32 bytes, there are few; they do not lie in what belongs to the client. · votes are taken by the client, and the certified head told. Conditions: the votes' numbers are ints, their roots have 32 bytes, there are few; they do not lie in what belongs to the client; the table of powers of ten reads as its initialiser lays it. · the greatest power of two below a number, by the program and by the reference. Condition: the number is from 1 to a million. -/
import Derived.Test.YtgalfohobgjelaaGreatDoorNi01
import Derived.Test.YtgalfohobgjelaaGreatDoorNi02
import Derived.Test.YtgalfohobgjelaaGreatDoorNi18
import Derived.Test.YtgalfohobgjelaaGreatDoorNi19
import Derived.Laws.EntriesVeiled
import Derived.Deep.Upon
namespace Go.Proofs.YtgalfohobgjelaaGreatDoor
open Go.RowKit Go.Shelf
open Go.Maps (Keyed)
attribute [local go_sem ↓ high] vtLoad_eq vtNew_eq vtStore_eq vtBs1_eq
/-- A slice lies apart from a client. -/
def ApartC (c : Cli) (v : Value) : Prop := ∀ a n cap, v = .slice (some a) n cap → ¬ c.foot a.block
theorem VtSl.step {S : Nat → Prop} {w w' : World} {v : Value} {L : List Vt} (h : VtSl w v L) (ho : Only S w w') (ha : ∀ a n cap, v = .slice (some a) n cap → ¬ S a.block) : VtSl w' v L := by
  obtain ⟨A, cap, rfl, h1, h2, h3⟩ := h
  refine ⟨A, cap, rfl, h1, h2, fun i p hp => ?_⟩
  obtain ⟨g, o, rfl, hg, hr⟩ := h3 i p hp
  exact ⟨g, o, rfl, Nat.lt_of_lt_of_le hg ho.size, fun j x hj => ho.cell_some (hr j x hj) (ha ⟨g, o, none⟩ _ _ rfl)⟩
/-- What the loop keeps. -/
structure FiS (w : World) (base : Nat) (c : Cli) (L : List Vt) (k : Nat) (ov mv : Value) (W : World) : Prop where
  cli : CliAt W base { c with mv := mv, seen := takeV c.seen (L.take k) }
  step : CliStep w W c { c with mv := mv, seen := takeV c.seen (L.take k) }
  own : VtOwn W w.heap.size ov (freshL c.seen (L.take k)).length (freshL c.seen (L.take k))
theorem takeV_len (M L : List Vt) : (takeV M L).length ≤ M.length + L.length := by
  unfold takeV
  rw [List.length_append]
  have := freshL_len L M
  omega
theorem take_snocV {L : List Vt} {k : Nat} {v : Vt} (h : L[k]? = some v) : L.take (k + 1) = L.take k ++ [v] := by rw [List.take_add_one, h]; rfl
theorem takeV_next {M L : List Vt} {k : Nat} {v : Vt} (h : L[k]? = some v) : takeV M (L.take (k + 1)) = take1 (takeV M (L.take k)) v := by
  rw [take_snocV h, takeV_fold, takeV_fold, List.foldl_append]
  rfl
theorem freshL_next {M L : List Vt} {k : Nat} {v : Vt} (h : L[k]? = some v) : freshL M (L.take (k + 1)) = freshL M (L.take k) ++ (if hasB (takeV M (L.take k)) v then [] else [v]) := by
  rw [take_snocV h, freshL_snoc]; rfl
theorem takeV_nil (M : List Vt) : takeV M [] = M := List.append_nil M
/-- What the call made lies apart from the client. -/
theorem out_apart {w W : World} {base n : Nat} {c : Cli} {ov mv : Value} {M : List Vt} {xs : List Value} (hc : CliAt w base c) (hcli : CliAt W base { c with mv := mv, seen := M }) (hown : W.ownsRow w.heap.size 43 36 ov n xs) {q : Nat} (hq : ov.ownBlock = some q) : ¬ ({ c with mv := mv, seen := M } : Cli).foot q := fun hf => by
  have hge := (own_ge hown hq).1
  rcases hf with hf | hf | hf | hf
  · have := Blk.lt hc.blk
    have e : q = c.C := hf
    omega
  · have := (own_ge hc.pers hf).2; omega
  · have := (own_ge hc.votes hf).2; omega
  · exact own_map_ne hown (hcli.seen.blk hf).2.2 hq
set_option maxRecDepth 100000 in
set_option maxHeartbeats 4000000 in
theorem filter_any (c : Cli) (base : Nat) (L : List Vt) (hok : VtsOk L) (hL : L.length ≤ 1000) (sv : Value) (w : World) (h : CliAt w base c) (hb : base ≤ w.heap.size) (hs : VtSl w sv L) (ha : ApartC c sv) (hn : c.seen.length ≤ 100000) :
    Calls Tryz.prog 76 #[sv, .func (.func 77) #[.pointer (some ⟨c.C, 0, none⟩)] #[]] w fun e w' => ∃ rv mv', e = .returned rv ∧ VtOwn w' w.heap.size rv (freshL c.seen L).length (freshL c.seen L) ∧ CliAt w' base { c with mv := mv', seen := takeV c.seen L } ∧ CliStep w w' c { c with mv := mv', seen := takeV c.seen L } := by
  obtain ⟨A, cap, rfl, hlc, hcm, hA⟩ := id hs
  obtain ⟨ie, zz, hie, hsz, hz, hzc, hby⟩ := vt_info
  have HIE := Lib.hid hie
  have HSZ := Lib.hid hsz
  have HZZ := Lib.hid hz
  have HZC := Lib.hid hzc
  have HBY := Lib.hid hby
  have HOK := Lib.hid hok
  have hs0 : FiS w base c L 0 (.slice none 0 0) c.mv w := by
    have e : ({ c with mv := c.mv, seen := takeV c.seen (L.take 0) } : Cli) = c := by rw [List.take_zero, takeV_nil]
    refine ⟨by rw [e]; exact h, by rw [e]; exact CliStep.refl _ _, ?_⟩
    exact ⟨rfl, .inl ⟨rfl, rfl⟩⟩
  have HS0 := Lib.hid hs0
  have HH := Lib.hid h
  have HSL := Lib.hid hs
  have HAP := Lib.hid ha
  clear hie hsz hz hzc hby hok hs0 h hA hs ha
  go_enter Tryz.func76, Tryz.ntmps76
  go_wp2_with fail
  go_loopw [5, 10] (fun ov iv wr => ∃ (k : Nat) (mv : Value), iv = .int .i64 (k : Int) ∧ k ≤ L.length ∧ FiS w base c L k ov mv wr) (fun _ iv _ => L.length - (intOf iv).toNat)
  case atStart => exact ⟨0, c.mv, rfl, by omega, HS0.out⟩
  case round =>
    obtain ⟨k, mv, rfl, hk, hS⟩ := hrel
    obtain ⟨out, hout⟩ : ∃ out : Value, out = u5 := ⟨_, rfl⟩
    subst hout
    have HS := Lib.hid hS
    clear hS
    by_cases hlt : k < L.length
    · obtain ⟨v, hv⟩ : ∃ v, L[k]? = some v := ⟨_, List.getElem?_eq_getElem hlt⟩
      have vo := HOK.out v (List.mem_of_getElem? hv)
      have hl := vo.head.root
      have hslr : VtSl wr (.slice A L.length cap) L := HSL.out.step HS.out.step.1 (fun a n cap e => HAP.out a n cap e)
      obtain ⟨g, o, rfl, hg, hr⟩ := (by obtain ⟨A', cap', e, _, _, h3⟩ := hslr; cases e; exact h3 k v hv : ∃ g o, A = some ⟨g, o, none⟩ ∧ g < wr.heap.size ∧ wr.rangeAt g (o + k * 36) (vtC v))
      have ik : (k : Int) < (L.length : Int) := by omega
      have ik0 : (0 : Int) ≤ (k : Int) := by omega
      have hld := vt_load hr hl
      have hst := vt_store_new wr hl
      have hnw := vtNew_run
      obtain ⟨c1, ec1⟩ : ∃ c1 : Cli, c1 = { c with mv := mv, seen := takeV c.seen (L.take k) } := ⟨_, rfl⟩
      have hcC : c1.C = c.C := by rw [ec1]
      have hseen : c1.seen = takeV c.seen (L.take k) := by rw [ec1]
      have hcli := HS.out.cli
      have hstep := HS.out.step
      rw [← ec1] at hcli hstep
      have hsn : c1.seen.length ≤ 1000000 := by
        rw [hseen]
        have h1 := takeV_len c.seen (L.take k)
        have h2 : (L.take k).length ≤ k := List.length_take_le _ _
        omega
      obtain ⟨V, eV⟩ : ∃ V, V = wr.heap.size := ⟨_, rfl⟩
      have hoZ : Only NoneOf wr ((wr.alloc (.cells vt0C 43)).setCells V 0 (vtC v)) := by rw [eV]; exact only_setCells ((Only.refl _ _).alloc _) wr.heap.size 0 (.inr (Nat.le_refl _)) _
      have hvZ : VtAt ((wr.alloc (.cells vt0C 43)).setCells V 0 (vtC v)) V v := by rw [eV]; exact filled_whole (Blk.new wr tVt vt0C) (by rw [vtC_len hl]; rfl)
      have HZ0 := Lib.hid (And.intro hoZ hvZ)
      have EV := Lib.hid eV
      have EV2 := Lib.hid eV
      have HVO := Lib.hid vo
      have HCLI := Lib.hid hcli
      have HSTEP := Lib.hid hstep
      have HFR : Hid (∀ W, Only NoneOf wr W → Calls Tryz.prog 77 #[.pointer (some ⟨c.C, 0, none⟩), .agg (vtC v).toArray] W fun e w' => e = .returned (.bool (!hasB c1.seen v)) ∧ ∃ mv', CliAt w' base { c1 with mv := mv', seen := take1 c1.seen v } ∧ CliStep W w' c1 { c1 with mv := mv', seen := take1 c1.seen v }) := Lib.hid (fun W ho => by
        rw [← hcC]
        exact fresh_any c1 v vo base W (hcli.nn ho) (Nat.le_trans hb (Nat.le_trans hstep.1.size ho.size)) hsn)
      have hnxt : takeV c.seen (L.take (k + 1)) = take1 c1.seen v := by rw [hseen, takeV_next hv]
      have hfnx : freshL c.seen (L.take (k + 1)) = freshL c.seen (L.take k) ++ (if hasB c1.seen v then [] else [v]) := by rw [hseen, freshL_next hv]
      have hc2 : ∀ mv', ({ c1 with mv := mv', seen := take1 c1.seen v } : Cli) = { c with mv := mv', seen := takeV c.seen (L.take (k + 1)) } := fun mv' => by rw [hnxt, ec1]
      have HC2 := Lib.hid hc2
      have HFN := Lib.hid hfnx
      have HOA : Hid (∀ q, out.ownBlock = some q → ¬ c1.foot q) := Lib.hid (fun q hq => by rw [ec1]; exact out_apart HH.out HS.out.cli HS.out.own hq)
      have hfl : (freshL c.seen (L.take k)).length ≤ k := Nat.le_trans (freshL_len _ _) (List.length_take_le _ _)
      obtain ⟨n0, en0⟩ : ∃ n0, n0 = (freshL c.seen (L.take k)).length := ⟨_, rfl⟩
      obtain ⟨C0, eC0⟩ : ∃ C0, C0 = (freshL c.seen (L.take k)).flatMap vtC := ⟨_, rfl⟩
      have hown0 : wr.ownsRow w.heap.size 43 36 out n0 C0 := by rw [en0, eC0]; exact HS.out.own
      have hcells : (freshL c.seen (L.take k) ++ [v]).flatMap vtC = C0 ++ vtC v := by rw [List.flatMap_append, eC0]; simp
      have hlen1 : (freshL c.seen (L.take k) ++ [v]).length = n0 + 1 := by rw [List.length_append, en0]; rfl
      rw [← en0] at hfl
      have HOWN := Lib.hid hown0
      have HCELLS := Lib.hid hcells
      have HLEN := Lib.hid hlen1
      have EN0 := Lib.hid en0
      have EC0 := Lib.hid eC0
      have HSZW := Lib.hid HS.out.step.1.size
      clear hr hg hslr hv vo hcli hstep hcC hseen hsn hoZ hvZ eV hnxt hfnx hc2 ec1 en0 eC0 hown0 hcells hlen1
      go_upto_region 5 with (fail)
      rw [← EV.out]
      refine wp_gen (fun Z => Only NoneOf wr Z ∧ VtAt Z V v) HZ0.out ?_
      clear HZ0 EV hld hst hnw
      rintro Z ⟨hZ, hV⟩
      have hld := vt_load (blk_range hV) hl
      have HZ := Lib.hid (And.intro hZ hV)
      clear hZ hV
      obtain ⟨β, eβ⟩ : ∃ β, β = hasB c1.seen v := ⟨_, rfl⟩
      rw [← eβ] at HFN HFR
      have EBB := Lib.hid eβ
      clear eβ
      go_wp2_with fail
      refine (HFR.out _ HZ.out.1).mono ?_
      rintro e5 w5 ⟨rfl, mv5, hcli5, hstep5⟩
      rw [HC2.out] at hcli5 hstep5
      have hV5 : VtAt w5 V v := Blk.only HZ.out.2 hstep5.1 (fun hf => by
        have h1 := (HCLI.out.foot_in hf).2
        have h2 := EV2.out
        omega)
      have hoa5 : ∀ q, out.ownBlock = some q → ¬ ({ c with mv := mv5, seen := takeV c.seen (L.take (k + 1)) } : Cli).foot q := fun q hq => out_apart HH.out hcli5 (own_only (own_only HOWN.out HZ.out.1 (fun _ _ e => e)) hstep5.1 HOA.out) hq
      have hown5 : w5.ownsRow w.heap.size 43 36 out n0 C0 := own_only (own_only HOWN.out HZ.out.1 (fun _ _ e => e)) hstep5.1 HOA.out
      have hst5 : CliStep w w5 c { c with mv := mv5, seen := takeV c.seen (L.take (k + 1)) } := (HSTEP.out.trans (CliStep.nn HZ.out.1)).trans hstep5
      have H5 := Lib.hid (And.intro hcli5 (And.intro hst5 (And.intro hown5 (And.intro hV5 hoa5))))
      clear hcli5 hstep5 hV5 hoa5 hown5 hst5 HFR hld
      cases β with
      | true =>
        go_wp2_with fail
        go_roundw
        case rel => exact ⟨k + 1, mv5, by go_num, by omega, H5.out.1, H5.out.2.1, by
          have h := H5.out.2.2.1
          rw [EN0.out, EC0.out] at h
          have e0 : freshL c.seen (L.take (k + 1)) = freshL c.seen (L.take k) := by rw [HFN.out]; simp
          rw [e0]
          exact h⟩
        case measure => simp [intOf]; omega
      | false =>
        have hld := vt_load (blk_range H5.out.2.2.2.1) hl
        have hbs := bs1_run v hl w5
        have hl36 : (vtC v).length = 36 := vtC_len hl
        have hsz5 := H5.out.2.1.1.size
        have HSZ5 := Lib.hid hsz5
        have HL36 := Lib.hid hl36
        clear hsz5 hl36
        go_wp2_with (at_builtin; refine wpList_append_lies _ rfl _ _ 32 rfl w.heap.size 43 ie zz 36 ie.bytes Tryz.underlying32 HIE.out HZZ.out HSZ.out rfl HZC.out (by omega) out n0 C0 rfl (World.ownsRow.alloc H5.out.2.2.1 _) _ 1 1 (vtC v) rfl HL36.out (World.news_of_block (cs := (vtC v).toArray) (t := 43) (fr := (0, 0)) (Blk.new w5 _ _)) (vtC_one v) (by omega) (by rw [maxLen_val]; omega) (by have := HBY.out; exact Nat.le_trans (Nat.mul_le_mul (show n0 + 1 ≤ 2000 by omega) this) (by omega)) (by rw [World.size_alloc]; have := HSZ5.out; omega) _ rfl ?_; intro g8 cap8 w8 hown8 hgrow8 hat8 hlt8)
        have ho8 : Only (fun q => out.ownBlock = some q) w5 w8 := ((Only.refl _ w5).alloc _).grown hgrow8 (fun q e => .inl e)
        have hcli8 := H5.out.1.keep ho8 (fun q hf e => H5.out.2.2.2.2 q e hf)
        have hst8 : CliStep w w8 c { c with mv := mv5, seen := takeV c.seen (L.take (k + 1)) } := ⟨H5.out.2.1.1.trans' ho8 (fun i hi e => by have := (own_ge H5.out.2.2.1 e).1; omega), H5.out.2.1.2⟩
        have H8 := Lib.hid (And.intro hcli8 (And.intro hst8 hown8))
        clear hcli8 hst8 hown8 ho8 hgrow8 hat8 hlt8 hld hbs
        go_wp2_with fail
        go_roundw
        case rel => exact ⟨k + 1, mv5, by go_num, by omega, H8.out.1, H8.out.2.1, by
          have h := H8.out.2.2
          have e0 : freshL c.seen (L.take (k + 1)) = freshL c.seen (L.take k) ++ [v] := by rw [HFN.out]; simp
          rw [e0]
          unfold VtOwn
          rw [HCELLS.out, HLEN.out]
          exact h⟩
        case measure => simp [intOf]; omega
    · obtain rfl : k = L.length := by omega
      have hf := HS.out
      have e1 : L.take L.length = L := List.take_length
      have HF : Hid (VtOwn wr w.heap.size out (freshL c.seen L).length (freshL c.seen L) ∧ CliAt wr base { c with mv := mv, seen := takeV c.seen L } ∧ CliStep w wr c { c with mv := mv, seen := takeV c.seen L }) := Lib.hid ⟨by have h := hf.own; rw [e1] at h; exact h, by have h := hf.cli; rw [e1] at h; exact h, by have h := hf.step; rw [e1] at h; exact h⟩
      clear hf e1 HS hlt hk
      go_wp2_with fail
      go_ret
      exact ⟨_, mv, rfl, HF.out.1, HF.out.2.1, HF.out.2.2⟩
end Go.Proofs.YtgalfohobgjelaaGreatDoor
namespace Go.Proofs.YtgalfohobgjelaaGreatDoor
open Go.RowKit Go.Shelf
open Go.Maps (Keyed)
/-- A slice of votes that the call made is appended to another such. -/
theorem run_append_vts (W : World) (base base' : Nat) (v u : Value) (M N : List Vt) (hN : VtsOk N) (hown : VtOwn W base v M.length M) (hsrc : VtOwn W base' u N.length N) (hsm : M.length + N.length ≤ 1000000) (hb : base ≤ W.heap.size) (ty : TypeId) :
    ∃ A cap W', (Builtin.append_ #[32, 32] ty #[v, u]).run Tryz.prog W = .ok (.slice A (M ++ N).length cap) W' ∧ VtOwn W' base (.slice A (M ++ N).length cap) (M ++ N).length (M ++ N) ∧ W.grownBy W' v.ownBlock ∧ ((Value.slice A (M ++ N).length cap).ownBlock = v.ownBlock ∨ (Value.slice A (M ++ N).length cap).ownBlock = some W.heap.size) := by
  obtain ⟨ie, z, hie, hsz, hz, hzc, hby⟩ := vt_info
  rcases hsrc.2 with ⟨rfl, h0⟩ | ⟨g, cap, cur, rfl, hgb, hh, hc, hm, hs, ht⟩
  · have hN0 : N = [] := List.eq_nil_of_length_eq_zero h0
    subst hN0
    obtain ⟨A, cap, rfl, h1, h2⟩ := own_form' hown
    rw [List.append_nil]
    refine ⟨A, cap, W, run_append_nothing W _ _ ty tVt ie Tryz.underlying32 hie A M.length cap h1 _ (Src.ofNil W Tryz.underlying32 0), hown, ⟨rfl, rfl, rfl, Nat.le_refl _, fun _ _ _ => rfl⟩, .inl rfl⟩
  · have hnews : ∀ j x, (N.flatMap vtC)[j]? = some x → W.cell? ((⟨g, 0, none⟩ : Addr).add j) = some x := fun j x hj => World.ownsRow.cells hsrc rfl j x hj
    have hl : (N.flatMap vtC).length = N.length * 36 := vts_len N hN
    obtain ⟨v', W', hr, h2, h3, _, h5⟩ := run_append_own_at (P := Tryz.prog) W base 32 ty 43 ie z 36 ie.bytes Tryz.underlying32 hie hz hsz rfl hzc (by omega) v M.length (M.flatMap vtC) hown ⟨g, 0, none⟩ N.length cap (N.flatMap vtC) hl hnews (flat_one N) (by rw [maxLen_val]; omega) (Nat.le_trans (Nat.mul_le_mul hsm hby) (by omega)) hb
    obtain ⟨A, cap', e, _, _⟩ := own_form' h2
    subst e
    rw [← List.length_append] at hr h2 h5
    rw [← List.flatMap_append] at h2
    exact ⟨A, cap', W', hr, h2, h3, h5⟩
/-- At a step of a region that draws its order. -/
theorem step_append_vts {ops : Array Oper} {o : Oper} {a : Act} {w : World} {K : Act → World → Prop} {Q : Exit → Act → World → Prop} {E : Prop} (hgd : o.guard = none) (s x : Operand)
    (ho : o.op = .call { callee := .builtin .append, args := #[s, x], argTypes := #[32, 32] }) (base base' : Nat) (v u : Value) (M N : List Vt) (hs : a.eval s = v) (hx : a.eval x = u) (hN : VtsOk N) (hown : VtOwn w base v M.length M) (hsrc : VtOwn w base' u N.length N) (hsm : M.length + N.length ≤ 1000000) (hb : base ≤ w.heap.size)
    (h : ∀ A cap w', VtOwn w' base (.slice A (M ++ N).length cap) (M ++ N).length (M ++ N) → w.grownBy w' v.ownBlock → ((Value.slice A (M ++ N).length cap).ownBlock = v.ownBlock ∨ (Value.slice A (M ++ N).length cap).ownBlock = some w.heap.size) → K (a.put o.dst (.slice A (M ++ N).length cap)) w') :
    if Region.wanted o (yielded ops a.tmps) = true then Oper.wp Tryz.prog o a w K Q else E := by
  have hw : Region.wanted o (yielded ops a.tmps) = true := by simp [Region.wanted, hgd]
  rw [if_pos hw]
  obtain ⟨A, cap, w', hr, h2, h3, h4⟩ := run_append_vts w base base' v u M N hN hown hsrc hsm hb o.type
  unfold Oper.wp execOp
  simp only [ho, resolve, invoke, builtin, Sem.run_bind, Sem.run_pure, Result.andThen_ok, List.map_toArray, List.map_cons, List.map_nil, hs, hx, hr]
  exact h A cap w' h2 h3 h4
def suLoad (v : Value) : Sem Value := Instr.loadAt 50 v
theorem suLoad_eq (v : Value) : Instr.loadAt 50 v = suLoad v := rfl
theorem su_load {W : World} {g o : Nat} {pv : Value} (h : W.rangeAt g o [pv, .int .i64 0, .slice none 0 0, .slice none 0 0, .int .i64 0, .int .i64 0]) : (suLoad (.pointer (some ⟨g, o, none⟩))).run Tryz.prog W = .ok (setV pv) W :=
  run_loadAt_mid W g o 50 [pv, .int .i64 0, .slice none 0 0, .slice none 0 0, .int .i64 0, .int .i64 0] _ h Tryz.underlying50 rfl (by kernel_rfl)
attribute [local go_sem ↓ high] suLoad_eq hdNew_eq hdStore_eq
/-- What the client has taken. -/
noncomputable def Cli.took (c : Cli) (vv mv : Value) (L : List Vt) : Cli := { c with vv := vv, votes := takeV c.votes L, mv := mv, seen := takeV c.votes L }
theorem ce_grown {w5 w8 : World} {base : Nat} {c : Cli} {mv : Value} {M : List Vt} (h : CliAt w5 base { c with mv := mv, seen := M }) (hg : w5.grownBy w8 c.vv.ownBlock) : Blk w8 c.C tCli (cliC { c with mv := mv, seen := M }).toArray := Blk.grown h.blk hg (fun e => h.ne_vv e.symm)
theorem ce_cell {w : World} {c : Cli} {mv : Value} {M : List Vt} (h : Blk w c.C tCli (cliC { c with mv := mv, seen := M }).toArray) (hl : c.head.root.length = 32) : w.cell? ⟨c.C, 42, none⟩ = some c.vv := cli_votes (c := { c with mv := mv, seen := M }) h hl
theorem ce_made {w5 w8 : World} {base : Nat} {c : Cli} {mv vv : Value} {L : List Vt} (h : CliAt w5 base { c with mv := mv, seen := takeV c.votes L }) (hown : VtOwn w8 base vv (takeV c.votes L).length (takeV c.votes L)) (hg : w5.grownBy w8 c.vv.ownBlock) (hblk : vv.ownBlock = c.vv.ownBlock ∨ vv.ownBlock = some w5.heap.size) :
    CliAt (w8.setCell ⟨c.C, 42, none⟩ vv) base (c.took vv mv L) ∧ CliStep w5 (w8.setCell ⟨c.C, 42, none⟩ vv) { c with mv := mv, seen := takeV c.votes L } (c.took vv mv L) := by
  have ho1 : Only (fun k => c.vv.ownBlock = some k) w5 w8 := (Only.refl _ w5).grown hg (fun k e => .inl e)
  have ho2 : Only (fun k => k = c.C) w8 (w8.setCell ⟨c.C, 42, none⟩ vv) := (Only.refl (fun k => k = c.C) w8).setCell (p := ⟨c.C, 42, none⟩) (.inl rfl) _
  have hb8 := ce_grown h hg
  have hp8 : PerOwn w8 base c.pv c.P.length c.P := own_only h.pers ho1 (fun k hk e => h.pv_vv hk e)
  have hs8 : SeenAt w8 base mv (takeV c.votes L) := h.seen.only ho1 (fun k hk e => h.vv_mv e hk)
  refine ⟨⟨cli_put_votes (c := { c with mv := mv, seen := takeV c.votes L }) hb8 h.hok.root vv (takeV c.votes L), h.lo, h.hok, own_only hp8 ho2 (fun k hk e => own_blk_ne hp8 hb8 (by decide) (by rw [← e]; exact hk)), own_only hown ho2 (fun k hk e => own_blk_ne hown hb8 (by decide) (by rw [← e]; exact hk)), h.sok, hs8.only ho2 (fun k hk e => map_blk_ne hb8 (hs8.blk hk).2.2 e.symm), h.sok⟩, ?_, ?_⟩
  · exact (ho1.mono (fun k _ e => .inr (.inr (.inl e)))).trans' ho2 (fun k _ e => .inl e)
  · intro k hk
    rcases hk with hk | hk | hk | hk
    · exact .inl (.inl hk)
    · exact .inl (.inr (.inl hk))
    · rcases hblk with e | e
      · exact .inl (.inr (.inr (.inl (by rw [← e]; exact hk))))
      · right
        have hk' : vv.ownBlock = some k := hk
        rw [e] at hk'
        cases hk'
        exact Nat.le_refl _
    · exact .inl (.inr (.inr (.inr hk)))
theorem best_ok {L : List Vt} (hok : VtsOk L) {C : Hd → Bool} {o : Option Hd} (h : BestOn (fun h => h ∈ L.map (·.head)) C o) : (hdOr o).Ok := by
  cases o with
  | none => exact ⟨⟨by show (-9223372036854775808 : Int) ≤ 0; omega, by show (0 : Int) ≤ 9223372036854775807; omega⟩, hd0_root⟩
  | some b =>
    obtain ⟨v, hv, rfl⟩ := List.mem_map.1 h.1
    exact (hok v hv).head
set_option maxRecDepth 100000 in
set_option maxHeartbeats 4000000 in
theorem certified_any (w0 : World) (ht : Tab w0) (c : Cli) (base : Nat) (hb0 : w0.heap.size ≤ base) (hcs : c.seen = c.votes) (hP : PersOk c.P) (hlen : c.P.length ≤ 1000) (L : List Vt) (hok : VtsOk L) (hL : L.length ≤ 1000) (hn : c.votes.length ≤ 50000) (sv : Value) (w : World) (how : Only NoneOf w0 w) (h : CliAt w base c) (hb : base ≤ w.heap.size) (hs : VtSl w sv L) (ha : ApartC c sv) :
    Calls Tryz.prog 46 #[.pointer (some ⟨c.C, 0, none⟩), sv] w fun e w' => ∃ o, BestOn (fun h => h ∈ L.map (·.head)) (fun h => certB c.P h L) o ∧ e = .returned (.tuple #[.agg (hdC (hdOr o)).toArray, .bool o.isSome]) ∧ ∃ vv mv, CliAt w' base (c.took vv mv L) ∧ CliStep w w' c (c.took vv mv L) := by
  have hR0 : HdAt (w.alloc (.cells hd0C 37)) w.heap.size hd0 := Blk.new w _ _
  have h1 : CliAt (w.alloc (.cells hd0C 37)) base c := h.nn ((Only.refl _ _).alloc _)
  obtain ⟨R, eR⟩ : ∃ R, R = w.heap.size := ⟨_, rfl⟩
  rw [← eR] at hR0
  have hfil : ∀ W, Only NoneOf w W → Calls Tryz.prog 76 #[sv, .func (.func 77) #[.pointer (some ⟨c.C, 0, none⟩)] #[]] W fun e w' => ∃ rv mv', e = .returned rv ∧ VtOwn w' W.heap.size rv (freshL c.votes L).length (freshL c.votes L) ∧ CliAt w' base { c with mv := mv', seen := takeV c.votes L } ∧ CliStep W w' c { c with mv := mv', seen := takeV c.votes L } := fun W ho => by
    have h2 := filter_any c base L hok hL sv W (h.nn ho) (Nat.le_trans hb ho.size) (hs.only ho) ha (by rw [hcs]; omega)
    rw [hcs] at h2
    exact h2
  have hbest : ∀ W c', CliStep w W c c' → c'.P = c.P → CliAt W base c' → Calls Tryz.prog 78 #[setV c'.pv, sv] W fun e w' => ∃ o, BestOn (fun h => h ∈ L.map (·.head)) (fun h => certB c.P h L) o ∧ e = .returned (.tuple #[.agg (hdC (hdOr o)).toArray, .bool o.isSome]) ∧ Only NoneOf W w' := fun W c' hst hp hc => by
    have hpo := hc.pers
    rw [hp] at hpo
    exact qbest_any c.P hP hlen c'.pv L hok (by omega) sv W (PerOwn.sl hpo) (hs.step hst.1 (fun a n cap e => ha a n cap e)) (ht.none (hst.only h how hb0))
  have hmf : ∀ (fn : Fn) (first cap : Array Value) (w : World), (Instr.makeFunc fn first cap).run Tryz.prog w = .ok (.func fn first cap) w := fun _ _ _ _ => rfl
  have hnw := hdNew_run
  have HF := Lib.hid hfil
  have HB := Lib.hid hbest
  have H1 := Lib.hid (And.intro h1 hR0)
  have ER := Lib.hid eR
  have HOK := Lib.hid hok
  have HH := Lib.hid h
  have HRT := Lib.hid h.hok.root
  have hwR : w.heap.size ≤ R := by omega
  have hbR : base ≤ R := by omega
  clear hR0 h1 eR hfil hbest hok h hs ha ht how
  go_enter Tryz.func46, Tryz.ntmps46
  go_upto_region 1 with (fail)
  rw [← ER.out]
  refine wp_gen (fun Z => CliAt Z base c ∧ HdAt Z R hd0 ∧ Only NoneOf w Z) ⟨H1.out.1, H1.out.2, (Only.refl _ _).alloc _⟩ ?_
  clear H1 hnw
  rintro Z ⟨hZ, hR, hO⟩
  have c42 : Z.cell? ⟨c.C, 42, none⟩ = some c.vv := cli_votes hZ.blk hZ.hok.root
  have HZ := Lib.hid (And.intro hZ (And.intro hR hO))
  clear hZ hR hO
  go_region_law (first
    | (refine step_append_vts (by rfl) _ _ (by rfl) base Z.drew.heap.size c.vv rv c.votes (freshL c.votes L) (by rfl) (by rfl) (fun x hx => HOK.out x (freshL_sub L _ x hx)) H5.out.2.1 H5.out.1 (by have := freshL_len L c.votes; omega) (by have h7 := H5.out.2.2.1.size; have h8 := HZ.out.2.2.drew.size; omega) ?_; intro A8 cap8 w8 hown8 hgrow8 hblk8; have hb8 := ce_grown H5.out.2.2.2.1 hgrow8; have e42 := ce_cell hb8 HRT.out; have f42 := hb8.frozen 42; have H8 := Lib.hid (And.intro hown8 (And.intro hgrow8 hblk8)); clear hb8 hown8 hgrow8 hblk8)
    | (go_simp; go_at_call 76; refine (HF.out Z.drew HZ.out.2.2.drew).mono ?_; rintro e5 w5 ⟨rv, mv5, rfl, hown5, hcli5, hstep5⟩; have d42 := ce_cell hcli5.blk HRT.out; have H5 := Lib.hid (And.intro hown5 (And.intro hcli5.votes (And.intro hstep5.1 (And.intro hcli5 hstep5)))); clear hown5 hcli5 hstep5))
  all_goals
    have hst8 := (CliStep.nn (c := c) (HZ.out.2.2.drew)).trans H5.out.2.2.2.2
    have hmade := ce_made (L := L) H5.out.2.2.2.1 H8.out.1 H8.out.2.1 H8.out.2.2
    have hst9 := hst8.trans hmade.2
    have hr9 : HdAt _ R hd0 := Blk.only HZ.out.2.1 (((CliStep.nn (c := c) ((Only.refl NoneOf Z).drew)).trans H5.out.2.2.2.2).trans hmade.2).1 (fun hf => by have := (HH.out.foot_in hf).2; omega)
    have h9 := And.intro hmade.1 (And.intro hst9 hr9)
    rw [List.length_append] at h9
    obtain ⟨N9, eN9⟩ : ∃ N9, N9 = c.votes.length + (freshL c.votes L).length := ⟨_, rfl⟩
    rw [← eN9] at h9 ⊢
    obtain ⟨c9, ec9⟩ : ∃ c9 : Cli, c9 = c.took (.slice A8 N9 cap8) mv5 L := ⟨_, rfl⟩
    rw [← ec9] at h9
    have H9 := Lib.hid h9
    have EC9 := Lib.hid ec9
    clear hst8 hmade hst9 hr9 h9 ec9 eN9 H5 H8 c42 d42 e42 f42 HZ
    go_upto_region 2 with (fail)
    refine wp_gen (fun W => CliAt W base c9 ∧ CliStep w W c c9 ∧ HdAt W R hd0) H9.out ?_
    clear H9
    rintro Y ⟨hY1, hY2, hY3⟩
    have hl1 := su_load (pv := c9.pv) (cli_setup hY1.blk)
    have hbs := HB.out Y c9 hY2 (by rw [EC9.out]; rfl) hY1
    have hC9 : c9.C = c.C := by rw [EC9.out]; rfl
    rw [hC9] at hl1
    have HBS := Lib.hid hbs
    have HY := Lib.hid (And.intro hY1 (And.intro hY2 hY3))
    clear hY1 hY2 hY3 hbs hC9
    go_wp2_with fail
    refine HBS.out.mono ?_
    rintro e6 w6 ⟨o, hbo, rfl, ho6⟩
    have hho : (hdOr o).Ok := best_ok HOK.out hbo
    have hR6 : HdAt w6 R hd0 := Blk.only HY.out.2.2 ho6 (fun e => e)
    have hst := hd_store hR6 rfl hho.root
    have hR7 : HdAt (w6.setCells R 0 (hdC (hdOr o))) R (hdOr o) := filled_whole hR6 (by rw [hdC_len hho.root]; rfl)
    have ho7 : Only (fun k => k = R) w6 (w6.setCells R 0 (hdC (hdOr o))) := only_setCells (S := fun k => k = R) (Only.refl _ _) R 0 (.inl rfl) _
    have hnf : ¬ c9.foot R := (HY.out.1.nn ho6).off hR6 (by decide) (by decide) (by decide)
    have hc7 := (HY.out.1.nn ho6).keep ho7 (fun k hk e => hnf (e ▸ hk))
    have hst7 := (HY.out.2.1.trans (CliStep.nn ho6)).put hwR 0 (hdC (hdOr o))
    have HBO := Lib.hid (And.intro hbo (And.intro hR7 (And.intro hho.root (And.intro hc7 hst7))))
    have HEC := Lib.hid EC9.out
    clear hbo hR7 hho hc7 hst7 hnf ho7 hR6 ho6 HBS HY hl1
    go_wp2_with fail
    refine bodyPost_ret (v := .tuple #[.agg (hdC (hdOr o)).toArray, .bool o.isSome]) (read_hd rfl rfl rfl HBO.out.2.1 HBO.out.2.2.1) rfl ⟨o, HBO.out.1, rfl, .slice A8 N9 cap8, mv5, ?_, ?_⟩
    · rw [← HEC.out]; exact HBO.out.2.2.2.1
    · rw [← HEC.out]; exact HBO.out.2.2.2.2
end Go.Proofs.YtgalfohobgjelaaGreatDoor
namespace Go.Proofs.YtgalfohobgjelaaGreatDoor
open Go.RowKit
/-- What the loops keep: j doublings. -/
def HlR (n j k : Nat) : Prop := j ≤ 25 ∧ k = 2 ^ j ∧ halfN n = halfF (64 - j) n k ∧ (k < n ∨ k = 1)
theorem HlR.zero (n : Nat) : HlR n 0 1 := ⟨by omega, rfl, rfl, .inr rfl⟩
theorem HlR.done {n j k : Nat} (h : HlR n j k) (hk : n ≤ 2 * k) : halfN n = k := by
  obtain ⟨h1, _, h3, _⟩ := h
  rw [h3, show 64 - j = (63 - j) + 1 by omega]
  unfold halfF
  rw [if_pos hk]
theorem HlR.next {n j k : Nat} (h : HlR n j k) (hn : n ≤ 1000000) (hk : ¬ n ≤ 2 * k) : HlR n (j + 1) (k * 2) := by
  obtain ⟨h1, h2, h3, h4⟩ := h
  have hj : j < 20 := by
    rcases Nat.lt_or_ge j 20 with hj | hj
    · exact hj
    · exfalso
      have : 2 ^ 20 ≤ 2 ^ j := Nat.pow_le_pow_right (by omega) hj
      have e : (2 : Nat) ^ 20 = 1048576 := by decide
      omega
  refine ⟨by omega, by rw [h2, Nat.pow_succ], ?_, .inl (by omega)⟩
  rw [h3, show 64 - j = (64 - (j + 1)) + 1 by omega]
  rw [show halfF (64 - (j + 1) + 1) n k = if n ≤ 2 * k then k else halfF (64 - (j + 1)) n (2 * k) from rfl, if_neg hk, Nat.mul_comm]
theorem HlR.small {n j k : Nat} (h : HlR n j k) (hn : n ≤ 1000000) : 1 ≤ k ∧ k ≤ 1000000 := by
  obtain ⟨_, h2, _, h4⟩ := h
  have : 0 < k := by rw [h2]; exact Nat.two_pow_pos j
  omega
set_option maxHeartbeats 1000000 in
theorem half_any (n : Nat) (h1 : 1 ≤ n) (hn : n ≤ 1000000) (w : World) : Calls Tryz.prog 83 #[.int .i64 (n : Int)] w fun e w' => e = .returned (.int .i64 (halfN n : Int)) ∧ w' = w := by
  go_enter Tryz.func83, Tryz.ntmps83
  go_wp2_with fail
  go_loopw [3, 4] (fun kv iv wr => ∃ j k : Nat, kv = .int .i64 (k : Int) ∧ iv = .int .i64 (j : Int) ∧ HlR n j k ∧ wr = w) (fun _ iv _ => 63 - (intOf iv).toNat)
  case atStart => exact ⟨0, 1, rfl, rfl, HlR.zero n, rfl⟩
  case round =>
    obtain ⟨j, k, rfl, rfl, hR, rfl⟩ := hrel
    have hs := hR.small hn
    have hj : j ≤ 25 := hR.1
    have HR := Lib.hid hR
    clear hR
    have ij : (j : Int) < 63 := by omega
    by_cases hk : n ≤ 2 * k
    · have hc : decide ((n : Int) - (k : Int) ≤ (k : Int)) = true := decide_eq_true (by omega)
      have hd := HR.out.done hk
      have HD := Lib.hid hd
      clear hd hk
      go_wp2_with fail
      go_ret
      exact ⟨ret_int (by rw [HD.out]), rfl⟩
    · have hc : decide ((n : Int) - (k : Int) ≤ (k : Int)) = false := decide_eq_false (by omega)
      have HN := Lib.hid (HR.out.next hn hk)
      clear hk
      go_wp2_with fail
      go_roundw
      case rel => exact ⟨j + 1, k * 2, by go_num, by go_num, HN.out, trivial⟩
      case measure => simp [intOf]; omega
set_option maxHeartbeats 1000000 in
theorem rhalf_any (n : Nat) (h1 : 1 ≤ n) (hn : n ≤ 1000000) (w : World) : Calls Tryz.prog 60 #[.int .i64 (n : Int)] w fun e w' => e = .returned (.int .i64 (halfN n : Int)) ∧ w' = w := by
  go_enter Tryz.func60, Tryz.ntmps60
  go_wp2_with fail
  go_loopw [3] (fun kv wr => ∃ j k : Nat, kv = .int .i64 (k : Int) ∧ HlR n j k ∧ wr = w) (fun kv _ => 2000000 - (intOf kv).toNat)
  case atStart => exact ⟨0, 1, rfl, HlR.zero n, rfl⟩
  case round =>
    obtain ⟨j, k, rfl, hR, rfl⟩ := hrel
    have hs := hR.small hn
    have HR := Lib.hid hR
    clear hR
    by_cases hk : n ≤ 2 * k
    · have hc : decide ((k : Int) < (n : Int) - (k : Int)) = false := decide_eq_false (by omega)
      have HD := Lib.hid (HR.out.done hk)
      clear hk
      go_wp2_with fail
      go_ret
      exact ⟨ret_int (by rw [HD.out]), rfl⟩
    · have hc : decide ((k : Int) < (n : Int) - (k : Int)) = true := decide_eq_true (by omega)
      have HN := Lib.hid (HR.out.next hn hk)
      clear hk
      go_wp2_with fail
      go_roundw
      case rel => exact ⟨j + 1, k * 2, by go_num, HN.out, trivial⟩
      case measure => simp [intOf]; omega
end Go.Proofs.YtgalfohobgjelaaGreatDoor
