/- What is proved here: what container/heap's Push and Pop do to the waiting copies. Conditions: the slice is the call's own, and short. -/
import Derived.Test.YtoaddfmbjehhoaaNetC
import Derived.Deep.AppendLies
import Derived.Deep.RegionLaw
namespace Go.Proofs.Ytoaddfmbjehhoaa
open Go.RowKit

theorem Try.info67 : (Try.prog.info? 67).map (fun i => (i.zero, i.size, i.bytes)) = some (some (.agg #[.int .i64 0, .int .i64 0, .string ByteArray.empty, .int .i64 0, .int .i64 0]), 5, 48) := by kernel_rfl
attribute [local go_sem ↓] Go.wp_at_zero Go.wp_at_succ

theorem ta67 (x : Value) (w : World) : (Instr.typeAssert (.iface 67 x) 20 67 true).run Try.prog w = .ok (.tuple #[x, .bool true]) w := by kernel_rfl
attribute [local go_sem] ta67

theorem heap_new2 (w : World) (o1 o2 : Obj) : ((w.alloc o1).alloc o2).drew.heap[w.heap.size + 1]? = some o2 := by
  have := heap_alloc_new (w.alloc o1) o2
  rw [World.size_alloc] at this
  exact this

def aggP (p : Pcl) : Value := .agg #[.int .i64 p.fr, .int .i64 p.tgt, .string p.tx, .int .i64 p.due, .int .i64 p.sent]

def PushPost (B b o n : Nat) (tn : TypeId) (cs : Array Value) (v : Value) (L : List Pcl) (w : World) (p : Pcl) (e : Ending) (w' : World) : Prop :=
  e = .returned (.tuple #[]) ∧ ∃ g cap, w'.ownsRow B 67 5 (.slice (some ⟨g, 0, none⟩) (n + 1) cap) (n + 1) ((L ++ [p]).flatMap pc) ∧ Blk w' b tn (cs.setIfInBounds o (.slice (some ⟨g, 0, none⟩) (n + 1) cap)) ∧
    (v.ownBlock = some g ∨ w.heap.size ≤ g) ∧ b ≠ g ∧ Only (fun k => k = b ∨ v.ownBlock = some k) w w'

set_option maxHeartbeats 1000000 in
theorem pushm_any {B b o n : Nat} {tn : TypeId} {cs : Array Value} {v : Value} {L : List Pcl} {w : World} (p : Pcl) (hb : Blk w b tn cs) (hco : cs[o]? = some v)
    (hown : w.ownsRow B 67 5 v n (L.flatMap pc)) (_hn : n ≤ 1000000) (hB : B ≤ w.heap.size) (htn : tn ≠ 67) :
    Calls Try.prog 47 #[.pointer (some ⟨b, o, none⟩), .iface 67 (aggP p)] w (PushPost B b o n tn cs v L w p) := by
  obtain ⟨i0, hi0, hz0, hz1, hz2⟩ := info_parts Try.info67
  have hcell : w.cell? ⟨b, o, none⟩ = some v := (hb.cell o).trans hco
  have hfr : w.frozen? ⟨b, o, none⟩ = false := hb.frozen o
  have lb := World.block_lt_of_cell? w _ hcell
  have hne : v.ownBlock ≠ some b := own_blk_ne hown hb (Ne.symm htn)
  have HB := Lib.hid hb
  have HO := Lib.hid hown
  have HC := Lib.hid hco
  have hne' := Lib.hid hne
  clear hb hown hco hne htn
  unfold aggP
  go_enter Try.func47, Try.ntmps47
  go_wp2_with fail
  have hbx : Blk (w.alloc (.cells #[.int .i64 p.fr, .int .i64 p.tgt, .string p.tx, .int .i64 p.due, .int .i64 p.sent] 67)) w.heap.size 67 #[.int .i64 p.fr, .int .i64 p.tgt, .string p.tx, .int .i64 p.due, .int .i64 p.sent] := Blk.new w _ _
  have c0 := hbx.cell 0
  have c1 := hbx.cell 1
  have c2 := hbx.cell 2
  have c3 := hbx.cell 3
  have c4 := hbx.cell 4
  simp only [List.getElem?_toArray, List.getElem?_cons_zero, List.getElem?_cons_succ] at c0 c1 c2 c3 c4
  have hvx : v.ownBlock ≠ some w.heap.size := fun h => by have := (HO.out.lt _ h).2; omega
  have hvx' := Lib.hid hvx
  clear hvx hbx
  have hca : ((w.alloc (.cells #[.int .i64 p.fr, .int .i64 p.tgt, .string p.tx, .int .i64 p.due, .int .i64 p.sent] 67)).alloc (.cells #[.int .i64 p.fr, .int .i64 p.tgt, .string p.tx, .int .i64 p.due, .int .i64 p.sent] 67)).cell? ⟨b, o, none⟩ = some v := (((HB.out.alloc _).alloc _).cell o).trans HC.out
  have hfa : ((w.alloc (.cells #[.int .i64 p.fr, .int .i64 p.tgt, .string p.tx, .int .i64 p.due, .int .i64 p.sent] 67)).alloc (.cells #[.int .i64 p.fr, .int .i64 p.tgt, .string p.tx, .int .i64 p.due, .int .i64 p.sent] 67)).frozen? ⟨b, o, none⟩ = false := ((HB.out.alloc _).alloc _).frozen o
  go_region_law
    ((refine step_append_lies _ (by rfl) _ _ _ (by rfl) B 67 i0 _ 5 48 Try.underlying51 hi0 hz0 hz1 hz2 rfl (by omega) v n (L.flatMap pc) (by rfl) (((HO.out.alloc _).drew).alloc _)
        ⟨w.heap.size + 1, 0, none⟩ 1 1 [.int .i64 p.fr, .int .i64 p.tgt, .string p.tx, .int .i64 p.due, .int .i64 p.sent] (by rfl) (by rfl) (World.news_of_block (cs := #[.int .i64 p.fr, .int .i64 p.tgt, .string p.tx, .int .i64 p.due, .int .i64 p.sent]) (t := 67) (fr := (0, 0)) (heap_new2 w _ _)) (by simp [Value.oneCell'])
        (by omega) (by rw [maxLen_val]; omega) (by omega) (by simp; omega) (w.heap.size + 2) (by simp) ?_; intro g cap w1 hown1 hgrow hat hlt; have hf1 : w1.frozen? ⟨b, o, none⟩ = false := (by rw [hgrow.frozen_far _ (by simp; omega) (Ne.symm hne'.out)]; simpa using hfa); have hc1 : w1.cell? ⟨b, o, none⟩ = some v := (by rw [hgrow.cell_far _ (by simp; omega) (Ne.symm hne'.out)]; simpa using hca)))
  all_goals
    go_end0
    have hbg : b ≠ g := by
      rcases hat with h | h
      · exact fun e => hne'.out (by rw [h, e])
      · omega
    have e1 : (L ++ [p]).flatMap pc = L.flatMap pc ++ [.int .i64 p.fr, .int .i64 p.tgt, .string p.tx, .int .i64 p.due, .int .i64 p.sent] := by simp [pc]
    refine ⟨rfl, g, cap, ?_, ?_, ?_, hbg, ?_⟩
    · rw [e1]
      exact own_far hown1 (by simpa [Value.ownBlock] using Ne.symm hbg) _
    · exact ((((HB.out.alloc _).alloc _).drew).grown hgrow (Ne.symm hne'.out)).set_ o _
    · rcases hat with h | h
      · exact .inl h
      · exact .inr (by omega)
    · exact ((((Only.refl _ w).alloc _).alloc _).drew.grown hgrow (fun k hk => .inl (.inr hk))).setCell (.inl (.inl rfl)) _

/-! ### The last one is taken off -/
def PopmPost (B b o n cap g : Nat) (tn : TypeId) (cs : Array Value) (L : List Pcl) (w : World) (p : Pcl) (e : Ending) (w' : World) : Prop :=
  e = .returned (.iface 67 (aggP p)) ∧ w'.ownsRow B 67 5 (.slice (some ⟨g, 0, none⟩) n cap) n (L.flatMap pc) ∧ Blk w' b tn (cs.setIfInBounds o (.slice (some ⟨g, 0, none⟩) n cap)) ∧
    Only (fun k => k = b) w w'
set_option maxHeartbeats 1000000 in
theorem popm_any {B b o n cap g : Nat} {tn : TypeId} {cs : Array Value} {L : List Pcl} {w : World} (p : Pcl) (hb : Blk w b tn cs) (hco : cs[o]? = some (.slice (some ⟨g, 0, none⟩) (n + 1) cap))
    (hown : w.ownsRow B 67 5 (.slice (some ⟨g, 0, none⟩) (n + 1) cap) (n + 1) ((L ++ [p]).flatMap pc)) (_hn : n ≤ 1000000) (hL : L.length = n) (htn : tn ≠ 67) :
    Calls Try.prog 46 #[.pointer (some ⟨b, o, none⟩)] w (PopmPost B b o n cap g tn cs L w p) := by
  have hcell : w.cell? ⟨b, o, none⟩ = some (.slice (some ⟨g, 0, none⟩) (n + 1) cap) := (hb.cell o).trans hco
  have hfr : w.frozen? ⟨b, o, none⟩ = false := hb.frozen o
  have lb := World.block_lt_of_cell? w _ hcell
  obtain ⟨c0, c1, c2, c3, c4⟩ := pcl_cells (i := n) (p := p) hown (by simp [hL]) (by rw [List.getElem?_append_right (by omega)]; simp [hL])
  obtain ⟨_, cap', he, hcap, hcm⟩ := own_form' hown
  have hcap' : n + 1 ≤ cap := by simp at he; omega
  have hcm' : cap ≤ maxLen := by simp at he; omega
  have lg : g < w.heap.size := (hown.lt g rfl).2
  have hne : b ≠ g := fun e => own_blk_ne hown hb (Ne.symm htn) (by rw [e]; rfl)
  have HB := Lib.hid hb
  have HO := Lib.hid hown
  have HL := Lib.hid hL
  have hne' := Lib.hid hne
  clear hb hown hco hne htn hL he hcap hcm
  rw [maxLen_val] at hcm'
  unfold aggP at *
  go_enter Try.func46, Try.ntmps46
  go_wp2_with fail
  go_ret
  have e1 : ((L ++ [p]).flatMap pc).take (n * 5) = L.flatMap pc := by
    rw [flat_take pc_len, ← HL.out, List.take_left]
  refine ⟨rfl, ?_, ?_, ?_⟩
  · have h1 := own_shrink (m := n) HO.out (by omega)
    rw [e1] at h1
    exact (own_far (p := ⟨b, o, none⟩) h1 (by simpa [Value.ownBlock] using Ne.symm hne'.out) _).alloc _
  · exact (HB.out.set_ o _).alloc _
  · exact ((Only.refl (fun k => k = b) w).setCell (p := ⟨b, o, none⟩) (.inl rfl) _).alloc _

/-! ### Pushing and popping -/
/-- A heap of copies, in the cell of a block: the slice is the call's own. -/
def HeapAt (B b o : Nat) (tn : TypeId) (cs : Array Value) (v : Value) (M : List Pcl) (w : World) : Prop :=
  Blk w b tn cs ∧ cs[o]? = some v ∧ Sorted M ∧ ∃ L, L.Perm M ∧ IsHeap L ∧ w.ownsRow B 67 5 v L.length (L.flatMap pc)

def HPushPost (B b o : Nat) (tn : TypeId) (cs : Array Value) (v : Value) (M : List Pcl) (w : World) (p : Pcl) (e : Ending) (w' : World) : Prop :=
  e = .returned (.tuple #[]) ∧ ∃ v', HeapAt B b o tn (cs.setIfInBounds o v') v' (ins p M) w' ∧ (v'.ownBlock = v.ownBlock ∨ ∃ g, v'.ownBlock = some g ∧ w.heap.size ≤ g) ∧ Only (fun k => k = b ∨ v.ownBlock = some k) w w'
theorem up_start {L : List Pcl} (p : Pcl) (h : IsHeap L) : UpTo (L ++ [p]) L.length := by
  refine ⟨fun k h0 h1 hne x y hx hy => ?_, fun k h0 _ h2 x y hx hy => ?_⟩
  · simp at h1
    have hk : k < L.length := by omega
    rw [List.getElem?_append_left hk] at hx
    rw [List.getElem?_append_left (by omega)] at hy
    exact h k h0 hk x y hx hy
  · obtain ⟨h3, _⟩ := List.getElem?_eq_some_iff.1 hx
    simp at h3
    omega
set_option maxHeartbeats 1000000 in
theorem hpush_any {B b o : Nat} {tn : TypeId} {cs : Array Value} {v : Value} {M : List Pcl} {w : World} (p : Pcl) (h : HeapAt B b o tn cs v M w) (_hn : M.length ≤ 100000) (hB : B ≤ w.heap.size) (htn : tn ≠ 67)
    (hp : ∀ q ∈ M, Lt p q ∨ Lt q p) :
    Calls Try.prog 22 #[.iface 75 (.pointer (some ⟨b, o, none⟩)), .iface 67 (aggP p)] w (HPushPost B b o tn cs v M w p) := by
  obtain ⟨hb, hco, hM, L, hLM, hL, hown⟩ := h
  have hLl : L.length ≤ 100000 := by rw [hLM.length_eq]; exact _hn
  have ho : o < cs.size := by
    rcases Nat.lt_or_ge o cs.size with h | h
    · exact h
    · rw [Array.getElem?_eq_none h] at hco; cases hco
  have hm := met_push ⟨b, o, none⟩ w
  have HB := Lib.hid hb
  have HO := Lib.hid hown
  have HC := Lib.hid hco
  have HL := Lib.hid hL
  have HM := Lib.hid hM
  have HP := Lib.hid hp
  have HLM := Lib.hid hLM
  clear hb hown hco hL hM hp hLM
  go_enter Try.func22, Try.ntmps22
  go_wp2_with (first
    | (go_at_call 47; refine (pushm_any p HB.out HC.out HO.out (by omega) hB htn).mono ?_; rintro e w1 ⟨rfl, g, cap, ho1, hb1, hg1, hne1, hon1⟩; have hcw := (hb1.cell o).trans (Array.getElem?_setIfInBounds_self_of_lt ho); have hml := met_len' hcw; have HCW := Lib.hid hcw; clear hcw; have HO1 := Lib.hid ho1; clear ho1; have HB1 := Lib.hid hb1; clear hb1; have HG1 := Lib.hid hg1; clear hg1)
    | (go_at_call 43; refine (len_any _ _ _ _).mono ?_; rintro e w2 ⟨rfl, rfl⟩)
    | (go_at_call 25; refine (up_any (L := L ++ [p]) L.length HCW.out hne1 HO1.out (by simp) (by omega) (by omega) (up_start p HL.out)).mono ?_; rintro e w3 ⟨rfl, L', ho3, hp3, hh3, hon3⟩))
  go_end0
  have hl3 : L'.length = L.length + 1 := by rw [hp3.length_eq]; simp
  refine ⟨rfl, .slice (some ⟨g, 0, none⟩) (L.length + 1) cap, ⟨HB1.out.only hon3 hne1, Array.getElem?_setIfInBounds_self_of_lt ho, ins_sorted HM.out HP.out, L', ?_, hh3, by rw [hl3]; exact ho3⟩, ?_, ?_⟩
  · refine hp3.trans (List.Perm.trans ?_ (ins_perm p M).symm)
    exact (List.perm_append_comm).trans (HLM.out.cons p)
  · rcases HG1.out with h | h
    · exact .inl h.symm
    · exact .inr ⟨g, rfl, h⟩
  · refine hon1.trans' hon3 (fun i hi hg => ?_)
    subst hg
    rcases HG1.out with h | h
    · exact .inr h
    · omega

def HPopPost (B b o : Nat) (tn : TypeId) (cs : Array Value) (v : Value) (M : List Pcl) (w : World) (p : Pcl) (e : Ending) (w' : World) : Prop :=
  e = .returned (.iface 67 (aggP p)) ∧ ∃ v', HeapAt B b o tn (cs.setIfInBounds o v') v' M w' ∧ v'.ownBlock = v.ownBlock ∧ Only (fun k => k = b ∨ v.ownBlock = some k) w w'
theorem down_start {L : List Pcl} {n : Nat} (h : IsHeap L) (hn : L.length = n + 1) : DownTo (swp L 0 n) 0 n := by
  refine ⟨fun k h0 h1 h2 x y hx hy => ?_, fun k h0 h1 h2 => by omega⟩
  rw [swp_get (by omega) (by omega), if_neg (by omega), if_neg (by omega)] at hx hy
  exact h k h0 (by omega) x y hx hy
theorem split_last {L L4 : List Pcl} {n : Nat} {p : Pcl} (hn : L.length = n + 1) (h0 : L[0]? = some p) (hp : L4.Perm (swp L 0 n)) (hk : ∀ k : Nat, n ≤ k → L4[k]? = (swp L 0 n)[k]?) : L4 = L4.take n ++ [p] ∧ (L4.take n).length = n := by
  have hl : L4.length = n + 1 := by rw [hp.length_eq, swp_len, hn]
  have h1 := hk n (Nat.le_refl _)
  rw [swp_get (by omega) (by omega), if_pos rfl, h0] at h1
  refine ⟨?_, by rw [List.length_take]; omega⟩
  have h2 := List.take_append_drop n L4
  have h3 : L4.drop n = [p] := by
    rw [List.drop_eq_getElem_cons (by omega), List.drop_of_length_le (by omega)]
    obtain ⟨h4, h5⟩ := List.getElem?_eq_some_iff.1 h1
    rw [h5]
  rw [h3] at h2
  exact h2.symm
theorem heapN_take {L : List Pcl} {n : Nat} (h : HeapN L n) (hn : n ≤ L.length) : IsHeap (L.take n) := by
  intro k h0 h1 x y hx hy
  rw [List.length_take] at h1
  rw [List.getElem?_take, if_pos (by omega)] at hx hy
  exact h k h0 (by omega) x y hx hy
set_option maxHeartbeats 1000000 in
theorem hpop_any {B b o : Nat} {tn : TypeId} {cs : Array Value} {v : Value} {M : List Pcl} {w : World} (p : Pcl) (h : HeapAt B b o tn cs v (p :: M) w) (_hn : M.length ≤ 100000) (htn : tn ≠ 67) :
    Calls Try.prog 24 #[.iface 75 (.pointer (some ⟨b, o, none⟩))] w (HPopPost B b o tn cs v M w p) := by
  obtain ⟨hb, hco, hM, L, hLM, hL, hown⟩ := h
  obtain ⟨n, hn⟩ : ∃ n, L.length = n + 1 := ⟨M.length, by rw [hLM.length_eq]; rfl⟩
  have hnM : n = M.length := by have := hLM.length_eq; simp at this; omega
  rw [hn] at hown
  obtain ⟨g, cap, rfl, hg1, hg2, hc1, hc2⟩ := own_form hown (by omega)
  have ho : o < cs.size := by
    rcases Nat.lt_or_ge o cs.size with h | h
    · exact h
    · rw [Array.getElem?_eq_none h] at hco; cases hco
  have hcw : w.cell? ⟨b, o, none⟩ = some (.slice (some ⟨g, 0, none⟩) (n + 1) cap) := (hb.cell o).trans hco
  have hne : b ≠ g := fun e => own_blk_ne hown hb (Ne.symm htn) (by rw [e]; rfl)
  have hmp := met_pop ⟨b, o, none⟩
  have hml := met_len' hcw
  have hms := met_swap' hcw
  have hh0 := atP_eq (L := L) (i := 0) (by omega)
  obtain ⟨T, hT⟩ := heap_head hL hM hLM hh0
  injection hT with hT1 hT2
  subst hT2
  have hnl : n ≤ 100000 := by omega
  have HB := Lib.hid hb
  have HO := Lib.hid hown
  have HC := Lib.hid hco
  have HL := Lib.hid hL
  have HM := Lib.hid hM
  have HN := Lib.hid hn
  have HLM := Lib.hid hLM
  have HT := Lib.hid hT1
  have HH0 := Lib.hid hh0
  have HCW := Lib.hid hcw
  have HNM := Lib.hid hnM
  clear hb hown hco hL hM hLM hT1 hh0 hcw hn hnM hc1 hc2
  go_enter Try.func24, Try.ntmps24
  go_wp2_with (first
    | (go_at_call 43; refine (len_any _ _ _ _).mono ?_; rintro e w2 ⟨rfl, rfl⟩)
    | (go_at_call 45; refine (swap_all (B := B) (L := L) 0 n HO.out HN.out (by omega) (by omega) (by omega)).mono ?_; rintro e w3 ⟨rfl, ho3, hon3⟩; have HO3 := Lib.hid ho3; clear ho3)
    | (go_at_call 26; refine (down_any (B := B) (g := g) (n := n + 1) (cap := cap) (m := n) (L := swp L 0 n) 0 (hon3.cell_some HCW.out hne) hne HO3.out (by rw [swp_len]; exact HN.out) (by omega) (by omega) (by omega) (down_start HL.out HN.out)).mono ?_; rintro e w4 ⟨⟨r, rfl⟩, L4, ho4, hp4, hh4, hk4, hon4⟩; obtain ⟨hs1, hs2⟩ := split_last HN.out (HT.out ▸ HH0.out) hp4 hk4; rw [hs1] at ho4; have HO4 := Lib.hid ho4; have HP4 := Lib.hid hp4; have HS1 := Lib.hid hs1; have HS2 := Lib.hid hs2; have HH4 := Lib.hid hh4; clear ho4 hp4 hk4 hs1 hs2 hh4)
    | (go_at_call 46; refine (popm_any (B := B) (L := L4.take n) p ((HB.out.only hon3 hne).only hon4 hne) HC.out HO4.out (by omega) HS2.out htn).mono ?_; rintro e w5 ⟨rfl, ho5, hb5, hon5⟩))
  go_ret
  have hl4 : L4.length = n + 1 := by rw [HP4.out.length_eq, swp_len]; exact HN.out
  refine ⟨rfl, .slice (some ⟨g, 0, none⟩) n cap, ⟨hb5, Array.getElem?_setIfInBounds_self_of_lt ho, (List.pairwise_cons.1 HM.out).2, L4.take n, ?_, heapN_take HH4.out (by omega), ?_⟩, rfl, ?_⟩
  · have h1 : (L4.take n ++ [p]).Perm (p :: M) := by
      rw [← HS1.out]
      exact HP4.out.trans ((swp_perm _ _ _).trans HLM.out)
    exact (List.perm_append_comm.trans h1).cons_inv
  · rw [HS2.out]; exact ho5
  · exact (((Only.refl (fun k => k = b ∨ (Value.slice (some ⟨g, 0, none⟩) (n + 1) cap).ownBlock = some k) w).trans' hon3 (fun i _ hi => .inr (by rw [hi]; rfl))).trans' hon4 (fun i _ hi => .inr (by rw [hi]; rfl))).trans' hon5 (fun i _ hi => .inl hi)
end Go.Proofs.Ytoaddfmbjehhoaa
