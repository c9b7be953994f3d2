/- What is proved here: how the program decodes a code, or panics. Conditions: the text is short; the library's variables hold what their initialisers lay. -/
import Derived.Test.YtclpebgjmgfigaaGreatDoorEcQ
import Derived.Test.YtclpebgjmgfigaaGreatDoorEcN
import Derived.Test.YtclpebgjmgfigaaGreatDoorEcU
import Derived.Deep.RegionHeld3
import Derived.Deep.RegionWith
import Derived.Laws.EntriesVeiled
import Derived.Deep.DeepCutAuto
namespace Go.Proofs.YtclpebgjmgfigaaGreatDoor
open Go.RowKit Go.Shelf
attribute [local go_sem ↓ high] evStore_eq evLoad_eq hxLoad_eq hxStore_eq hxZero_eq evZero_eq
/-- What decode answers: some event, and the one of the code if the text is a code; or it panics, and the text is none. -/
def DcdE (s : ByteArray) (w : World) (e : Ending) (w' : World) : Prop :=
  (e = .panicked wrongP ∧ Only NoneOf w w' ∧ ∀ f, ¬ Code s.data.toList f) ∨ (∃ u : Ev, e = .returned (.agg (evC u).toArray) ∧ u.Ok ∧ u.name.size ≤ s.size ∧ u.text.size ≤ s.size ∧ Only NoneOf w w' ∧ ∀ f, Code s.data.toList f → u = f)
/-- What lies still in decode. -/
structure DcS (w : World) (P b c d E : Nat) (W : World) : Prop where
  res : EvAt W P blank0
  wrd : Blk W c 68 #[wordF b]
  num : Blk W d 122 #[numF c]
  only : Only NoneOf w W
  lo : w.heap.size ≤ b ∧ b < P ∧ P < c ∧ c < d ∧ d < E
theorem DcS.read {w W W' : World} {P b c d E : Nat} (h : DcS w P b c d E W) (ho : Only (fun i => i = b) W W') : DcS w P b c d E W' :=
  ⟨Blk.only h.res ho (fun e => by have := h.lo; have e' : P = b := e; omega), h.wrd.only ho (fun e => by have := h.lo; have e' : c = b := e; omega), h.num.only ho (fun e => by have := h.lo; have e' : d = b := e; omega), h.only.trans' ho (fun i hi e => by have := h.lo; have e' : i = b := e; omega), h.lo⟩
theorem DcS.next {w W W' : World} {P b c d E : Nat} (h : DcS w P b c d E W) (ho : Only NoneOf W W') : DcS w P b c d E W' := h.read (only_one b ho)
theorem DcS.put {w W : World} {P b c d E i : Nat} (h : DcS w P b c d E W) (v : Value) : DcS w P b c d E (W.setCell ⟨E, i, none⟩ v) :=
  ⟨Blk.far (p := ⟨E, i, none⟩) h.res (by have := h.lo; show P ≠ E; omega) _, h.wrd.far (p := ⟨E, i, none⟩) (by have := h.lo; show c ≠ E; omega) _, h.num.far (p := ⟨E, i, none⟩) (by have := h.lo; show d ≠ E; omega) _, h.only.setCell (p := ⟨E, i, none⟩) (.inr (by have := h.lo; show w.heap.size ≤ E; omega)) _, h.lo⟩
theorem DcS.puts {w W : World} {P b c d E i : Nat} (h : DcS w P b c d E W) (vs : List Value) : DcS w P b c d E (W.setCells E i vs) :=
  ⟨Blk.farCells (b := E) (by have := h.lo; omega) vs i h.res, h.wrd.farCells (b := E) (by have := h.lo; omega) vs i, h.num.farCells (b := E) (by have := h.lo; omega) vs i, only_setCells h.only _ _ (.inr (by have := h.lo; omega)) _, h.lo⟩
theorem DcS.env {w W : World} {P b c d E : Nat} (h : DcS w P b c d E W) (he : EnvA w) : EnvB b W := ⟨w, he, h.only, h.lo.1⟩
/-- What stands behind the signature. -/
def DcR5 (w : World) (P b c d E : Nat) (s : ByteArray) (W : World) : Prop := ∃ (n1 n2 : Int) (r : ByteArray), In n1 ∧ In n2 ∧ DcS w P b c d E W ∧ Blk W b 9 #[.string r] ∧ EvAt W E (sigE n1 n2) ∧ r.size ≤ s.size ∧ ∀ f, Code s.data.toList f → n1 = f.r ∧ n2 = f.s ∧ r.data.toList = tlE f
theorem DcS.word {w W : World} {P b c d E : Nat} (h : DcS w P b c d E W) (he : EnvA w) {r : ByteArray} (hr : r.size ≤ 100000000) (hb : Blk W b 9 #[.string r]) (x : UInt8) : Calls Tryz.prog 65 #[.string ⟨#[x]⟩, .pointer (some ⟨b, 0, none⟩)] W (WordE r x b W) := dword_any x b r hr W hb (h.env he).env.shp
theorem DcS.numb {w W : World} {P b c d E : Nat} (h : DcS w P b c d E W) (he : EnvA w) {r : ByteArray} (hr : r.size ≤ 100000000) (hb : Blk W b 9 #[.string r]) : Calls Tryz.prog 67 #[.string ⟨#[32]⟩, .pointer (some ⟨c, 0, none⟩)] W (NumbE r 32 b W) := dnum_any 32 blank_ok b c r hr W hb (h.wrd.cell 0) (h.env he)
theorem DcS.text {w W : World} {P b c d E : Nat} (h : DcS w P b c d E W) (he : EnvA w) {r : ByteArray} (hr : r.size ≤ 100000000) (hb : Blk W b 9 #[.string r]) : Calls Tryz.prog 69 #[.pointer (some ⟨d, 0, none⟩), .pointer (some ⟨b, 0, none⟩)] W (TextE r b W) := dtxt_any b c d (by have := h.lo; omega) r hr W hb (h.wrd.cell 0) (h.num.cell 0) (h.env he)
theorem DcS.event {w W W' : World} {P b c d E : Nat} (h : DcS w P b c d E W) {e : Ev} (hE : EvAt W E e) (ho : Only (fun i => i = b) W W') : EvAt W' E e := Blk.only hE ho (fun e => by have := h.lo; have e' : E = b := e; omega)
theorem DcS.hash {w W : World} {P b c d E : Nat} (_h : DcS w P b c d E W) {e : Ev} (hE : EvAt W E e) (he : e.prev.length = 32) {L : List UInt8} (hL : L.length = 32) : (hxStore (.pointer (some ⟨E, 12, none⟩)) (.agg (L.map bv).toArray)).run Tryz.prog W = .ok () (W.setCells E 12 (L.map bv)) ∧ EvAt (W.setCells E 12 (L.map bv)) E { e with prev := L } :=
  ⟨hx_store_at (Blk.there hE 12 32 (by rw [List.size_toArray, evC_len he]; omega)) hL, ev_cells hE he hL⟩
/-- In the loop over the ten numbers. -/
structure DlC (w : World) (P b c d E G : Nat) (s : ByteArray) (e : Ev) (k : Nat) (r : ByteArray) (W : World) : Prop where
  st : DcS w P b c d E W
  str : Blk W b 9 #[.string r]
  ev : EvAt W E e
  ptr : Blk W G 123 ((List.range 10).map fun i => Value.pointer (some ⟨E, offN i, none⟩)).toArray
  ne : E < G
  eok : e.Ok
  size : r.size ≤ s.size
  got : Got s.data.toList k e r.data.toList
  txt : e.name.size ≤ s.size ∧ e.text.size ≤ s.size
def DlS (w : World) (P b c d E G : Nat) (s : ByteArray) (k : Nat) (W : World) : Prop := ∃ (e : Ev) (r : ByteArray), DlC w P b c d E G s e k r W
theorem DlC.step {w W W' : World} {P b c d E G k : Nat} {s : ByteArray} {e : Ev} {r r' : ByteArray} {m : Int} (hk : k < 10) (h : DlC w P b c d E G s e k r W) (hm : In m) (hb : Blk W' b 9 #[.string r']) (ho : Only (fun i => i = b) W W') (hr : r'.size ≤ r.size) (hw : ∀ m' t, NumAt r.data.toList 32 m' t → m = m' ∧ r'.data.toList = t) : DlC w P b c d E G s (e.setN k m) (k + 1) r' (W'.setCell ⟨E, offN k, none⟩ (.int .i64 m)) := by
  have hlo := h.st.lo
  have hne := h.ne
  obtain ⟨_, _, _, t4, t5⟩ := setN_rest e k m
  exact ⟨(h.st.read ho).put _, hb.far (p := ⟨E, offN k, none⟩) (by show b ≠ E; omega) _, ev_set (h.st.event h.ev ho) (set_num e m k hk), (h.ptr.only ho (fun e => by have e' : G = b := e; omega)).far (p := ⟨E, offN k, none⟩) (by show G ≠ E; omega) _, hne, setN_ok h.eok k hm, Nat.le_trans hr h.size, h.got.step hk hw, by rw [t4, t5]; exact h.txt⟩
set_option maxRecDepth 100000 in
set_option maxHeartbeats 8000000 in
theorem dcode_any (s : ByteArray) (hs : s.size ≤ 40000000) (w : World) (he : EnvA w) : Calls Tryz.prog 40 #[.string s] w (DcdE s w) := by
  have hmf : ∀ (fn : Fn) (first cap : Array Value) (w : World), (Instr.makeFunc fn first cap).run Tryz.prog w = .ok (.func fn first cap) w := fun _ _ _ _ => rfl
  have hlen : s.data.toList.length = s.size := by simp
  have HSH : Hid (∀ f, Code s.data.toList f → In f.name.data.toList.length ∧ In f.text.data.toList.length) := Lib.hid (fun f hf => hf.short (by omega))
  have h0 : Blk ((w.alloc (.cells #[.string s] 9)).alloc (.cells (evC blank0).toArray tEv)) w.heap.size 9 #[.string s] ∧ EvAt ((w.alloc (.cells #[.string s] 9)).alloc (.cells (evC blank0).toArray tEv)) (w.heap.size + 1) blank0 ∧ Only NoneOf w ((w.alloc (.cells #[.string s] 9)).alloc (.cells (evC blank0).toArray tEv)) := by
    have h2 := Blk.new (w.alloc (.cells #[.string s] 9)) tEv (evC blank0).toArray
    rw [World.size_alloc] at h2
    exact ⟨(Blk.new w _ _).alloc _, h2, ((Only.refl _ _).alloc _).alloc _⟩
  obtain ⟨b, eb⟩ : ∃ b, b = w.heap.size := ⟨_, rfl⟩
  have H0 := Lib.hid h0
  have EB := Lib.hid eb
  have HE := Lib.hid he
  clear h0 eb he hlen
  go_enter Tryz.func40, Tryz.ntmps40
  go_upto_region 1 with (fail)
  refine wp_gen (fun Y => Blk Y w.heap.size 9 #[.string s] ∧ EvAt Y (w.heap.size + 1) blank0 ∧ Only NoneOf w Y) H0.out ?_
  rintro Y ⟨hb, hP, ho⟩
  rw [← EB.out] at hb hP ⊢
  obtain ⟨P, eP⟩ : ∃ P, P = b + 1 := ⟨_, rfl⟩
  rw [← eP] at hP ⊢
  have hbw : w.heap.size ≤ b := Nat.le_of_eq EB.out.symm
  have hbP : b < P := by omega
  have HB := Lib.hid hb
  have HP := Lib.hid hP
  have HO := Lib.hid ho
  clear hb hP ho eP H0 EB
  go_upto_region 2 with (fail)
  obtain ⟨c, ec⟩ : ∃ c, c = Y.heap.size := ⟨_, rfl⟩
  rw [← ec]
  have hPc : P < c := by rw [ec]; exact Blk.lt HP.out
  refine wp_gen (fun Z => Blk Z b 9 #[.string s] ∧ EvAt Z P blank0 ∧ Only NoneOf w Z ∧ Blk Z c 68 #[wordF b]) ⟨HB.out.alloc _, Blk.alloc HP.out _, HO.out.alloc _, by rw [ec]; exact Blk.new _ _ _⟩ ?_
  rintro Z ⟨hb, hP, ho, hf⟩
  clear HB HP HO ec
  have HB := Lib.hid hb
  have HP := Lib.hid hP
  have HO := Lib.hid ho
  have HF := Lib.hid hf
  clear hb hP ho hf
  go_upto_region 3 with (fail)
  obtain ⟨d, ed⟩ : ∃ d, d = Z.heap.size := ⟨_, rfl⟩
  rw [← ed]
  have hcd : c < d := by rw [ed]; exact Blk.lt HF.out
  refine wp_gen (fun V => Blk V b 9 #[.string s] ∧ EvAt V P blank0 ∧ Only NoneOf w V ∧ Blk V c 68 #[wordF b] ∧ Blk V d 122 #[numF c]) ⟨HB.out.alloc _, Blk.alloc HP.out _, HO.out.alloc _, HF.out.alloc _, by rw [ed]; exact Blk.new _ _ _⟩ ?_
  rintro V ⟨hb, hP, ho, hf, hg⟩
  clear HB HP HO HF ed
  have HB := Lib.hid hb
  have HP := Lib.hid hP
  have HO := Lib.hid ho
  have HF := Lib.hid hf
  have HG := Lib.hid hg
  clear hb hP ho hf hg
  go_upto_region 5 with (fail)
  obtain ⟨E, eE⟩ : ∃ E, E = V.heap.size := ⟨_, rfl⟩
  rw [← eE]
  have hdE : d < E := by rw [eE]; exact Blk.lt HG.out
  refine wp_gen (fun U => DcS w P b c d E U ∧ Blk U b 9 #[.string s] ∧ EvAt U E blank0) ⟨⟨Blk.alloc HP.out _, HF.out.alloc _, HG.out.alloc _, HO.out.alloc _, hbw, hbP, hPc, hcd, hdE⟩, HB.out.alloc _, by rw [eE]; exact Blk.new _ _ _⟩ ?_
  rintro U ⟨hU, hb, hE⟩
  have HU := Lib.hid hU
  have HBU := Lib.hid hb
  have HEU := Lib.hid hE
  clear hU hb hE HB HP HO HF HG eE
  have hS : DcS w P b c d E U.drew := HU.out.next ((Only.refl _ _).drew)
  have hbU : Blk U.drew b 9 #[.string s] := HBU.out.only ((Only.refl NoneOf _).drew) (fun e => e)
  have hEU : EvAt U.drew E blank0 := Blk.only HEU.out ((Only.refl NoneOf _).drew) (fun e => e)
  have cd0 : ∀ W, DcS w P b c d E W → W.cell? ⟨d, 0, none⟩ = some (numF c) := fun W h => h.num.cell 0
  have C1 : Hid (∀ W, DcS w P b c d E W → Blk W b 9 #[.string s] → Calls Tryz.prog 67 #[.string ⟨#[32]⟩, .pointer (some ⟨c, 0, none⟩)] W (NumbE s 32 b W)) := Lib.hid (fun W h hb => h.numb HE.out (by omega) hb)
  have C2 : Hid (∀ (r : ByteArray) W, r.size ≤ s.size → DcS w P b c d E W → Blk W b 9 #[.string r] → Calls Tryz.prog 67 #[.string ⟨#[32]⟩, .pointer (some ⟨c, 0, none⟩)] W (NumbE r 32 b W)) := Lib.hid (fun r W hr h hb => h.numb HE.out (by omega) hb)
  have hbE : b ≠ E := by omega
  go_cut [] from 14 to 21 (fun wx => DcR5 w P b c d E s wx)
  case first =>
    refine wp_region_held_drew (S := fun W => DcS w P b c d E W) (by kernel_rfl) hS (fun hS0 => ?_)
    refine wpAnyH_take (i := 0) (v := numF c) rfl (by kernel_rfl) (by kernel_rfl) (by kernel_rfl) (fun _ _ _ h => h) (Or.inl ⟨by rfl, fun W hW => by have hW1 := cd0 W hW; go_simp⟩) hS0 ?_
    simp only [Act.put, List.setIfInBounds_toArray]
    refine wpAnyH_take (i := 2) (v := numF c) rfl (by kernel_rfl) (by kernel_rfl) (by kernel_rfl) (fun _ _ _ h => h) (Or.inl ⟨by rfl, fun W hW => by have hW1 := cd0 W hW; go_simp⟩) hS0 ?_
    simp only [Act.put]
    refine wpAnyH_ready (rs := [1]) (by kernel_rfl) (by simp) ?_
    refine AllReadyH.cons rfl (fun K hK => ?_) AllReadyH.nil
    go_simp
    refine (C1.out _ hS hbU).mono ?_
    rintro e1 w1 (⟨rfl, ho1, hno1⟩ | ⟨n1, r1, rfl, hn1, hb1, ho1, hsr1, hw1⟩)
    · exact ⟨rfl, .inl ⟨rfl, (hS.read ho1).only, fun f hf => hno1 _ _ (by rw [hf.2]; exact code_num f hf.1)⟩⟩
    have hS1 := hS.read ho1
    have hE1 := hS.event hEU ho1
    refine hK.out _ _ hS1 (fun _ => ?_)
    clear hK
    try simp only [Act.put, List.setIfInBounds_toArray, List.set_cons_zero, List.set_cons_succ]
    refine wpAnyH_ready (rs := [3]) (by kernel_rfl) (by simp) ?_
    refine AllReadyH.cons rfl (fun K hK => ?_) AllReadyH.nil
    go_simp
    refine (C2.out r1 _ hsr1 hS1 hb1).mono ?_
    rintro e2 w2 (⟨rfl, ho2, hno2⟩ | ⟨n2, r2, rfl, hn2, hb2, ho2, hsr2, hw2⟩)
    · exact ⟨rfl, .inl ⟨rfl, (hS1.read ho2).only, fun f hf => by
        obtain ⟨_, g2⟩ := hw1 _ _ (by rw [hf.2]; exact code_num f hf.1)
        exact hno2 _ _ (by rw [g2]; exact tlS_num f hf.1)⟩⟩
    have hS2 := hS1.read ho2
    have hE2 := hS1.event hE1 ho2
    refine hK.out _ _ hS2 (fun _ => ?_)
    clear hK
    try simp only [Act.put, List.setIfInBounds_toArray, List.set_cons_zero, List.set_cons_succ]
    have c44 := (ev_sig hE2 rfl).1
    have f44 := Blk.frozen hE2 44
    refine wpAnyH_ready (rs := [4]) (by kernel_rfl) (by simp) ?_
    refine AllReadyH.cons rfl (fun K hK => ?_) AllReadyH.nil
    go_simp
    refine hK.out _ _ hS2 (fun _ => ?_)
    clear hK
    try simp only [Act.put, List.setIfInBounds_toArray, List.set_cons_zero, List.set_cons_succ]
    refine wpAnyH_ready (rs := [5]) (by kernel_rfl) (by simp) ?_
    refine AllReadyH.cons rfl (fun K hK => ?_) AllReadyH.nil
    go_simp
    refine hK.out _ _ hS2 (fun _ => ?_)
    clear hK
    try simp only [Act.put, List.setIfInBounds_toArray, List.set_cons_zero, List.set_cons_succ]
    refine wpAnyH_ready (rs := [6]) (by kernel_rfl) (by simp) ?_
    refine AllReadyH.cons rfl (fun K hK => ?_) AllReadyH.nil
    go_simp
    refine hK.out _ _ (hS2.put (i := 44) (.int .i64 n1)) (fun _ => ?_)
    clear hK
    try simp only [Act.put, List.setIfInBounds_toArray, List.set_cons_zero, List.set_cons_succ]
    have hE3 : EvAt (w2.setCell ⟨E, 44, none⟩ (.int .i64 n1)) E (sigE n1 0) := ev_set hE2 (set_sig blank0 rfl n1).1
    have c45 := (ev_sig hE3 rfl).2
    have f45 := Blk.frozen hE3 45
    refine wpAnyH_ready (rs := [7]) (by kernel_rfl) (by simp) ?_
    refine AllReadyH.cons rfl (fun K hK => ?_) AllReadyH.nil
    go_simp
    refine hK.out _ _ (hS2.put (i := 44) (.int .i64 n1)) (fun _ => ?_)
    clear hK
    try simp only [Act.put, List.setIfInBounds_toArray, List.set_cons_zero, List.set_cons_succ]
    refine wpAnyH_ready (rs := [8]) (by kernel_rfl) (by simp) ?_
    refine AllReadyH.cons rfl (fun K hK => ?_) AllReadyH.nil
    go_simp
    refine hK.out _ _ (hS2.put (i := 44) (.int .i64 n1)) (fun _ => ?_)
    clear hK
    try simp only [Act.put, List.setIfInBounds_toArray, List.set_cons_zero, List.set_cons_succ]
    refine wpAnyH_ready (rs := [9]) (by kernel_rfl) (by simp) ?_
    refine AllReadyH.cons rfl (fun K hK => ?_) AllReadyH.nil
    go_simp
    refine hK.out _ _ ((hS2.put (i := 44) (.int .i64 n1)).put (i := 45) (.int .i64 n2)) (fun _ => ?_)
    clear hK
    try simp only [Act.put, List.setIfInBounds_toArray, List.set_cons_zero, List.set_cons_succ]
    refine wpAnyH_done (by kernel_rfl) ?_ _
    go_wp2_with fail
    go_meet
    case rel =>
      refine ⟨n1, n2, r2, hn1, hn2, (hS2.put (i := 44) (.int .i64 n1)).put (i := 45) (.int .i64 n2), (hb2.far (p := ⟨E, 44, none⟩) hbE _).far (p := ⟨E, 45, none⟩) hbE _, ev_set hE3 (set_sig (sigE n1 0) rfl n2).2, Nat.le_trans hsr2 hsr1, fun f hf => ?_⟩
      obtain ⟨g1, g2⟩ := hw1 _ _ (by rw [hf.2]; exact code_num f hf.1)
      obtain ⟨g3, g4⟩ := hw2 _ _ (by rw [g2]; exact tlS_num f hf.1)
      exact ⟨g1, g3, g4⟩
  case rest =>
    obtain ⟨n1, n2, r2, hn1, hn2, hS2, hb2, hE2, hsr2, hg2⟩ := hcut
    have HN1 := Lib.hid hn1
    have HN2 := Lib.hid hn2
    have HS2 := Lib.hid hS2
    have HB2 := Lib.hid hb2
    have HE2 := Lib.hid hE2
    have HR2 := Lib.hid hsr2
    have HG2 := Lib.hid hg2
    have cc : wc.cell? ⟨c, 0, none⟩ = some (wordF b) := hS2.wrd.cell 0
    clear hn1 hn2 hS2 hb2 hE2 hsr2 hg2 hS hbU hEU cd0 C1 C2 HU HBU HEU
    go_wp2_with fail
    refine (HS2.out.word HE.out (by have := HR2.out; omega) HB2.out 32).mono ?_
    rintro e w3 (⟨rfl, ho3, hno3⟩ | ⟨a3, r3, rfl, hb3, ho3, hsa3, hsr3, hw3⟩)
    · have HOO := Lib.hid (HS2.out.read ho3).only
      have HNO : Hid (∀ f, ¬ Code s.data.toList f) := Lib.hid (fun f hf => hno3 _ _ (by rw [(HG2.out f hf).2.2]; exact tlE_word f))
      clear ho3 hno3
      go_wp2_with fail
      exact ⟨rfl, .inl ⟨rfl, HOO.out, HNO.out⟩⟩
    have HS3 := Lib.hid (HS2.out.read ho3)
    have HE3 := Lib.hid (HS2.out.event HE2.out ho3)
    have HB3 := Lib.hid hb3
    have HR3 := Lib.hid (Nat.le_trans hsr3 HR2.out)
    have hg3 : ∀ f, Code s.data.toList f → n1 = f.r ∧ n2 = f.s ∧ a3.data.toList = evWl ∧ r3.data.toList = tlK f 0 := fun f hf => by
      obtain ⟨g1, g2, g3⟩ := HG2.out f hf
      obtain ⟨g4, g5⟩ := hw3 _ _ (by rw [g3]; exact tlE_word f)
      exact ⟨g1, g2, g4, g5⟩
    have HG3 := Lib.hid hg3
    clear hb3 ho3 hsa3 hsr3 hw3 hg3 HS2 HE2 HB2 HR2 HG2 cc
    by_cases heq : a3.data.toList = evWl
    case neg =>
      have hq : (a3.toList == [101, 118, 101, 110, 116]) = false := by rw [Lib.toList_data]; exact beq_eq_false_iff_ne.2 heq
      have HNO : Hid (∀ f, ¬ Code s.data.toList f) := Lib.hid (fun f hf => heq (HG3.out f hf).2.2.1)
      clear heq
      go_wp2_with fail
      refine (need_false _).mono ?_
      rintro e w5 ⟨rfl, hw5⟩
      subst hw5
      go_wp2_with fail
      exact ⟨rfl, .inl ⟨rfl, HS3.out.only, HNO.out⟩⟩
    have hq : (a3.toList == [101, 118, 101, 110, 116]) = true := by rw [Lib.toList_data]; exact beq_iff_eq.2 heq
    clear heq
    go_wp2_with fail
    refine (need_true _).mono ?_
    rintro e w5 ⟨rfl, hw5⟩
    subst hw5
    obtain ⟨G, eG⟩ : ∃ G, G = w5.heap.size := ⟨_, rfl⟩
    have hl0 : DlS w P b c d E G s 0 (w5.alloc (.cells ((List.range 10).map fun i => Value.pointer (some ⟨E, offN i, none⟩)).toArray 123)) := by
      refine ⟨sigE n1 n2, r3, HS3.out.next ((Only.refl _ _).alloc _), HB3.out.alloc _, Blk.alloc HE3.out _, by rw [eG]; exact Blk.new _ _ _, by rw [eG]; exact Blk.lt HE3.out, sigE_ok HN1.out HN2.out, HR3.out, fun f hf => ?_, ⟨Nat.zero_le _, Nat.zero_le _⟩⟩
      obtain ⟨g1, g2, _, g4⟩ := HG3.out f hf
      exact ⟨⟨g1, g2, rfl⟩, g4⟩
    have HL0 := Lib.hid hl0
    have EG := Lib.hid eG
    clear hl0 eG hq HG3 HB3 HR3
    go_upto_region 8 with (fail)
    rw [← EG.out]
    refine wp_gen (fun Z => DlS w P b c d E G s 0 Z) HL0.out ?_
    intro Z0 hZ0
    have HZ0 := Lib.hid hZ0
    clear hZ0 HL0 EG HS3 HE3 HN1 HN2
    go_loopw [40] (fun v W => ∃ k : Nat, v = .int .i64 (k : Int) ∧ k ≤ 10 ∧ DlS w P b c d E G s k W) (fun v _ => 10 - (intOf v).toNat)
    case atStart => exact ⟨0, rfl, by omega, HZ0.out⟩
    case round =>
      clear HZ0
      obtain ⟨k, rfl, hk, e, r, hR⟩ := hrel
      have HR := Lib.hid hR
      clear hR
      by_cases hlt : k < 10
      · have ik0 : (0 : Int) ≤ (k : Int) := by omega
        have ik1 : (k : Int) < 10 := by omega
        have wk : IntKind.i64.wrap ((k : Int) + 1) = (k : Int) + 1 := IntWalk.i64_in _ (by omega)
        have cg : wr.cell? ⟨G, k, none⟩ = some (.pointer (some ⟨E, offN k, none⟩)) := by
          rw [HR.out.ptr.cell, List.getElem?_toArray, List.getElem?_map, List.getElem?_range hlt]; rfl
        have cn : wr.cell? ⟨d, 0, none⟩ = some (numF c) := HR.out.st.num.cell 0
        obtain ⟨q, eq⟩ : ∃ q, q = offN k := ⟨_, rfl⟩
        rw [← eq] at cg
        have EQ := Lib.hid eq
        clear eq
        go_wp2_with fail
        refine (HR.out.st.numb HE.out (by have := HR.out.size; omega) HR.out.str).mono ?_
        rintro e4 w4 (⟨rfl, ho4, hno4⟩ | ⟨m, r', rfl, hm, hb4, ho4, hsr4, hw4⟩)
        · have HOO := Lib.hid (HR.out.st.read ho4).only
          have HNO : Hid (∀ f, ¬ Code s.data.toList f) := Lib.hid (fun f hf => by
            obtain ⟨_, g2⟩ := HR.out.got f hf
            obtain ⟨m', hm'⟩ : ∃ m', f.nums[k]? = some m' := ⟨_, List.getElem?_eq_getElem (by rw [nums_len]; exact hlt)⟩
            exact hno4 m' _ (by rw [g2]; exact tlK_num hf.1 hm'))
          clear ho4 hno4
          go_wp2_with fail
          exact ⟨rfl, .inl ⟨rfl, HOO.out, HNO.out⟩⟩
        have he4 := HR.out.st.event HR.out.ev ho4
        obtain ⟨v4, hv4⟩ := num_cell e k hlt
        have ce : w4.cell? ⟨E, q, none⟩ = some (.int .i64 v4) := by rw [EQ.out]; exact (ev_cell he4 _).trans hv4
        have fe := Blk.frozen he4 q
        have hstep := HR.out.step hlt hm hb4 ho4 hsr4 hw4
        rw [← EQ.out] at hstep
        have HSTEP := Lib.hid hstep
        clear ho4 hb4 hsr4 hw4 he4 hv4 hm hstep cg cn HR EQ
        go_wp2_with fail
        go_roundw
        case rel => exact ⟨k + 1, by go_num, by omega, ⟨_, _, HSTEP.out⟩⟩
        case measure => simp [intOf]; omega
      · obtain rfl : k = 10 := by omega
        have ik : ¬ ((10 : Nat) : Int) < 10 := by omega
        have cc : wr.cell? ⟨c, 0, none⟩ = some (wordF b) := HR.out.st.wrd.cell 0
        go_wp2_with fail
        refine (HR.out.st.word HE.out (by have := HR.out.size; omega) HR.out.str 32).mono ?_
        rintro e5 w6 (⟨rfl, ho5, hno5⟩ | ⟨a5, r5, rfl, hb5, ho5, hsa5, hsr5, hw5⟩)
        · have HOO := Lib.hid (HR.out.st.read ho5).only
          have HNO : Hid (∀ f, ¬ Code s.data.toList f) := Lib.hid (fun f hf => hno5 _ _ (by rw [(HR.out.got f hf).2]; exact tlH_word f))
          clear ho5 hno5
          go_wp2_with fail
          exact ⟨rfl, .inl ⟨rfl, HOO.out, HNO.out⟩⟩
        have HS5 := Lib.hid (HR.out.st.read ho5)
        have HE5 := Lib.hid (HR.out.st.event HR.out.ev ho5)
        have HB5 := Lib.hid hb5
        have HX := Lib.hid HR.out.eok
        have HXT := Lib.hid HR.out.txt
        have HSA5 := Lib.hid (Nat.le_trans hsa5 HR.out.size)
        have HSR5 := Lib.hid (Nat.le_trans hsr5 HR.out.size)
        have hg5 : ∀ f, Code s.data.toList f → Agrees 10 e f ∧ a5.data.toList = hexL f.prev ∧ r5.data.toList = tlQ f := fun f hf => by
          obtain ⟨g1, g2⟩ := HR.out.got f hf
          obtain ⟨g3, g4⟩ := hw5 _ _ (by rw [g2]; exact tlH_word f)
          exact ⟨g1, g3, g4⟩
        have HG5 := Lib.hid hg5
        clear hb5 ho5 hsa5 hsr5 hw5 hg5 HR cc
        go_wp2_with fail
        refine (dread_any a5 (by have := HSA5.out; omega) w6).mono ?_
        rintro e6 w7 ⟨H, hk, rfl, hH, hhx, ho6⟩
        obtain ⟨X6, eX6⟩ : ∃ X, X = (w7.alloc (.cells (zero32.map bv).toArray tHsh)).setCells w7.heap.size 0 (H.map bv) := ⟨_, rfl⟩
        have hst : (hxStore (.pointer (some ⟨w7.heap.size, 0, none⟩)) (.agg (H.map bv).toArray)).run Tryz.prog (w7.alloc (.cells #[.int .u8 0, .int .u8 0, .int .u8 0, .int .u8 0, .int .u8 0, .int .u8 0, .int .u8 0, .int .u8 0, .int .u8 0, .int .u8 0, .int .u8 0, .int .u8 0, .int .u8 0, .int .u8 0, .int .u8 0, .int .u8 0, .int .u8 0, .int .u8 0, .int .u8 0, .int .u8 0, .int .u8 0, .int .u8 0, .int .u8 0, .int .u8 0, .int .u8 0, .int .u8 0, .int .u8 0, .int .u8 0, .int .u8 0, .int .u8 0, .int .u8 0, .int .u8 0] tHsh)) = .ok () ((w7.alloc (.cells (zero32.map bv).toArray tHsh)).setCells w7.heap.size 0 (H.map bv)) := hx_store (Blk.new w7 tHsh (zero32.map bv).toArray) zero32_len hH
        rw [← eX6] at hst
        have hoX : Only NoneOf w7 X6 := by rw [eX6]; exact only_setCells ((Only.refl NoneOf w7).alloc _) _ _ (.inr (Nat.le_refl _)) _
        obtain ⟨J, eJ⟩ : ∃ J, J = w7.heap.size := ⟨_, rfl⟩
        have hbX : Blk X6 J tHsh (H.map bv).toArray := by rw [eX6, eJ]; exact (Blk.new w7 tHsh (zero32.map bv).toArray).filled _ (by rw [List.length_map, List.length_map, hH, zero32_len])
        have HX6 := Lib.hid (show DcS w P b c d E X6 ∧ Blk X6 b 9 #[.string r5] ∧ EvAt X6 E e ∧ Blk X6 J tHsh (H.map bv).toArray from ⟨(HS5.out.next ho6).next hoX, (HB5.out.only ho6 (fun e => e)).only hoX (fun e => e), Blk.only (Blk.only HE5.out ho6 (fun e => e)) hoX (fun e => e), hbX⟩)
        have HH := Lib.hid hH
        have HHX := Lib.hid hhx
        have EJ := Lib.hid eJ
        clear hoX hbX eX6 hH hhx ho6 HS5 HB5 HE5 eJ
        go_upto_region 13 with (fail)
        rw [← EJ.out]
        refine wp_gen (fun Z => DcS w P b c d E Z ∧ Blk Z b 9 #[.string r5] ∧ EvAt Z E e ∧ Blk Z J tHsh (H.map bv).toArray) HX6.out ?_
        rintro Z6 ⟨hz1, hz2, hz3, hz4⟩
        have hl := hx_load (hx_range hz4) HH.out
        obtain ⟨hst6, hz5⟩ := hz1.hash hz3 HX.out.prev HH.out
        have HZ6 := Lib.hid (show DcS w P b c d E (Z6.setCells E 12 (H.map bv)) ∧ Blk (Z6.setCells E 12 (H.map bv)) b 9 #[.string r5] ∧ EvAt (Z6.setCells E 12 (H.map bv)) E { e with prev := H } from ⟨hz1.puts _, hz2.farCells (b := E) (by have := hz1.lo; omega) _ 12, hz5⟩)
        have HO6 := Lib.hid hz1.only
        clear hst HX6 EJ hz1 hz2 hz3 hz4 hz5
        cases hk with
        | false =>
          have HNO : Hid (∀ f, ¬ Code s.data.toList f) := Lib.hid (fun f hf => by cases (HHX.out f.prev hf.1.prev (HG5.out f hf).2.1).2)
          clear hl hst6
          go_wp2_with fail
          refine (need_false _).mono ?_
          rintro e wq ⟨rfl, hwq⟩
          subst hwq
          go_wp2_with fail
          exact ⟨rfl, .inl ⟨rfl, HO6.out, HNO.out⟩⟩
        | true =>
        go_wp2_with fail
        refine (need_true _).mono ?_
        rintro e wq ⟨rfl, hwq⟩
        subst hwq
        go_upto_region 15 with (fail)
        refine wp_gen (fun Z => DcS w P b c d E Z ∧ Blk Z b 9 #[.string r5] ∧ EvAt Z E { e with prev := H }) HZ6.out ?_
        rintro Z7 ⟨hz1, hz2, hz3⟩
        have HZS := Lib.hid hz1
        have HZB := Lib.hid hz2
        have HZE := Lib.hid hz3
        clear hl hst6 HZ6 HO6 hz1 hz2 hz3
        go_wp2_with fail
        refine (HZS.out.text HE.out (by have := HSR5.out; omega) HZB.out).mono ?_
        rintro e7 w8 (⟨rfl, ho7, hno7⟩ | ⟨a7, r7, rfl, hb7, ho7, hsa7, hsr7, hw7⟩)
        · have HOO := Lib.hid (HZS.out.read ho7).only
          have HNO : Hid (∀ f, ¬ Code s.data.toList f) := Lib.hid (fun f hf => hno7 _ _ (by rw [(HG5.out f hf).2.2]; exact tlQ_quo (HSH.out f hf).1))
          clear ho7 hno7
          go_wp2_with fail
          exact ⟨rfl, .inl ⟨rfl, HOO.out, HNO.out⟩⟩
        have hS7 := HZS.out.read ho7
        have hE7 := HZS.out.event HZE.out ho7
        have c8 : w8.cell? ⟨E, 8, none⟩ = some (.string e.name) := ev_cell hE7 8
        have f8 := Blk.frozen hE7 8
        have hp7 : DcS w P b c d E (w8.setCell ⟨E, 8, none⟩ (.string a7)) ∧ Blk (w8.setCell ⟨E, 8, none⟩ (.string a7)) b 9 #[.string r7] ∧ EvAt (w8.setCell ⟨E, 8, none⟩ (.string a7)) E { e with prev := H, name := a7 } := ⟨hS7.put _, hb7.far (p := ⟨E, 8, none⟩) hbE _, ev_set hE7 (set_name { e with prev := H } a7).1⟩
        have HP7 := Lib.hid hp7
        have HSA7 := Lib.hid (Nat.le_trans hsa7 HSR5.out)
        have HSR7 := Lib.hid (Nat.le_trans hsr7 HSR5.out)
        have hg7 : ∀ f, Code s.data.toList f → Agrees 10 e f ∧ H = f.prev ∧ a7.data.toList = f.name.data.toList ∧ r7.data.toList = 32 :: tlT f := fun f hf => by
          obtain ⟨g1, g2, g3⟩ := HG5.out f hf
          obtain ⟨g5, _⟩ := HHX.out f.prev hf.1.prev g2
          obtain ⟨g7, g8⟩ := hw7 _ _ (by rw [g3]; exact tlQ_quo (HSH.out f hf).1)
          exact ⟨g1, g5, g7, g8⟩
        have HG7 := Lib.hid hg7
        clear hS7 hE7 hb7 ho7 hsa7 hsr7 hw7 hp7 hg7 HZS HZB HZE HG5 HHX
        go_upto_region 16 with (fail)
        refine wp_gen (fun Z => DcS w P b c d E Z ∧ Blk Z b 9 #[.string r7] ∧ EvAt Z E { e with prev := H, name := a7 }) HP7.out ?_
        rintro Z8 ⟨hz1, hz2, hz3⟩
        have cc : Z8.cell? ⟨c, 0, none⟩ = some (wordF b) := hz1.wrd.cell 0
        have HZS := Lib.hid hz1
        have HZB := Lib.hid hz2
        have HZE := Lib.hid hz3
        clear c8 f8 HP7 hz1 hz2 hz3
        go_wp2_with fail
        refine (HZS.out.word HE.out (by have := HSR7.out; omega) HZB.out 32).mono ?_
        rintro e8 w9 (⟨rfl, ho8, hno8⟩ | ⟨a8, r8, rfl, hb8, ho8, hsa8, hsr8, hw8⟩)
        · have HOO := Lib.hid (HZS.out.read ho8).only
          have HNO : Hid (∀ f, ¬ Code s.data.toList f) := Lib.hid (fun f hf => hno8 _ _ (by rw [(HG7.out f hf).2.2.2]; exact tlT_word f))
          clear ho8 hno8
          go_wp2_with fail
          exact ⟨rfl, .inl ⟨rfl, HOO.out, HNO.out⟩⟩
        have HS8 := Lib.hid (HZS.out.read ho8)
        have HE8 := Lib.hid (HZS.out.event HZE.out ho8)
        have HB8 := Lib.hid hb8
        have HSR8 := Lib.hid (Nat.le_trans hsr8 HSR7.out)
        have hg8 : ∀ f, Code s.data.toList f → Agrees 10 e f ∧ H = f.prev ∧ a7.data.toList = f.name.data.toList ∧ a8.data.toList = [] ∧ r8.data.toList = tlT f := fun f hf => by
          obtain ⟨g1, g2, g3, g4⟩ := HG7.out f hf
          obtain ⟨g5, g6⟩ := hw8 _ _ (by rw [g4]; exact tlT_word f)
          exact ⟨g1, g2, g3, g5, g6⟩
        have HG8 := Lib.hid hg8
        clear hb8 ho8 hsa8 hsr8 hw8 hg8 HZS HZB HZE HG7 cc
        by_cases heq : a8.data.toList = []
        case neg =>
          have hq : a8.toList.isEmpty = false := by rw [Lib.toList_data]; exact List.isEmpty_eq_false_iff.2 heq
          have hq2 : (a8.toList == []) = false := by rw [Lib.toList_data]; exact beq_eq_false_iff_ne.2 heq
          have HNO : Hid (∀ f, ¬ Code s.data.toList f) := Lib.hid (fun f hf => heq (HG8.out f hf).2.2.2.1)
          clear heq
          go_wp2_with fail
          refine (need_false _).mono ?_
          rintro e wq ⟨rfl, hwq⟩
          subst hwq
          go_wp2_with fail
          exact ⟨rfl, .inl ⟨rfl, HS8.out.only, HNO.out⟩⟩
        have hq : a8.toList.isEmpty = true := by rw [Lib.toList_data, heq]; rfl
        have hq2 : (a8.toList == []) = true := by rw [Lib.toList_data, heq]; rfl
        clear heq
        go_wp2_with fail
        refine (need_true _).mono ?_
        rintro e wq ⟨rfl, hwq⟩
        subst hwq
        clear hq hq2
        go_wp2_with fail
        refine (HS8.out.text HE.out (by have := HSR8.out; omega) HB8.out).mono ?_
        rintro e9 w10 (⟨rfl, ho9, hno9⟩ | ⟨a9, r9, rfl, hb9, ho9, hsa9, hsr9, hw9⟩)
        · have HOO := Lib.hid (HS8.out.read ho9).only
          have HNO : Hid (∀ f, ¬ Code s.data.toList f) := Lib.hid (fun f hf => hno9 _ _ (by rw [(HG8.out f hf).2.2.2.2]; exact tlT_quo (HSH.out f hf).2))
          clear ho9 hno9
          go_wp2_with fail
          exact ⟨rfl, .inl ⟨rfl, HOO.out, HNO.out⟩⟩
        have hS9 := HS8.out.read ho9
        have hE9 := HS8.out.event HE8.out ho9
        have c9 : w10.cell? ⟨E, 9, none⟩ = some (.string e.text) := ev_cell hE9 9
        have f9 := Blk.frozen hE9 9
        obtain ⟨u, eu⟩ : ∃ u : Ev, u = { e with prev := H, name := a7, text := a9 } := ⟨_, rfl⟩
        have hp9 : DcS w P b c d E (w10.setCell ⟨E, 9, none⟩ (.string a9)) ∧ Blk (w10.setCell ⟨E, 9, none⟩ (.string a9)) b 9 #[.string r9] ∧ EvAt (w10.setCell ⟨E, 9, none⟩ (.string a9)) E u := ⟨hS9.put _, hb9.far (p := ⟨E, 9, none⟩) hbE _, by rw [eu]; exact ev_set hE9 (set_name { e with prev := H, name := a7 } a9).2⟩
        have HP9 := Lib.hid hp9
        have huok : u.Ok := by
          obtain ⟨o1, o2, o3, o4, o5, o6, o7, o8, o9, o10, o11, o12, o13⟩ := HX.out
          rw [eu]
          exact ⟨o1, o2, o3, o4, o5, o6, o7, o8, o9, o10, HH.out, o12, o13⟩
        have hun : u.name.size ≤ s.size := by rw [eu]; exact HSA7.out
        have hut : u.text.size ≤ s.size := by rw [eu]; exact Nat.le_trans hsa9 HSR8.out
        have hg9 : ∀ f, Code s.data.toList f → u = f ∧ r9.data.toList = [] := fun f hf => by
          obtain ⟨g1, g2, g3, _, g5⟩ := HG8.out f hf
          obtain ⟨g7, g8⟩ := hw9 _ _ (by rw [g5]; exact tlT_quo (HSH.out f hf).2)
          refine ⟨?_, g8⟩
          rw [eu]
          exact Agrees.all (e := { e with prev := H, name := a7, text := a9 }) ⟨g1.1, g1.2.1, g1.2.2⟩ g2 (bytes_ext g3) (bytes_ext g7)
        have HUOK := Lib.hid huok
        have HUN := Lib.hid hun
        have HUT := Lib.hid hut
        have HG9 := Lib.hid hg9
        clear hS9 hE9 hb9 ho9 hsa9 hsr9 hw9 hp9 hg9 eu huok hun hut HS8 HE8 HB8 HG8 HX HXT HH HSA7 HSR7 HSR8
        go_upto_region 18 with (fail)
        refine wp_gen (fun Z => DcS w P b c d E Z ∧ Blk Z b 9 #[.string r9] ∧ EvAt Z E u) HP9.out ?_
        rintro Z9 ⟨hz1, hz2, hz3⟩
        have cs : Z9.cell? ⟨b, 0, none⟩ = some (.string r9) := hz2.cell 0
        have HZS := Lib.hid hz1
        have HZE := Lib.hid hz3
        clear c9 f9 HP9 hz1 hz2 hz3
        by_cases heq : r9.data.toList = []
        case neg =>
          have hq : r9.toList.isEmpty = false := by rw [Lib.toList_data]; exact List.isEmpty_eq_false_iff.2 heq
          have hq2 : (r9.toList == []) = false := by rw [Lib.toList_data]; exact beq_eq_false_iff_ne.2 heq
          have HNO : Hid (∀ f, ¬ Code s.data.toList f) := Lib.hid (fun f hf => heq (HG9.out f hf).2)
          clear heq
          go_wp2_with fail
          refine (need_false _).mono ?_
          rintro e wq ⟨rfl, hwq⟩
          subst hwq
          go_wp2_with fail
          exact ⟨rfl, .inl ⟨rfl, HZS.out.only, HNO.out⟩⟩
        have hq : r9.toList.isEmpty = true := by rw [Lib.toList_data, heq]; rfl
        have hq2 : (r9.toList == []) = true := by rw [Lib.toList_data, heq]; rfl
        clear heq
        go_wp2_with fail
        refine (need_true _).mono ?_
        rintro e wq ⟨rfl, hwq⟩
        subst hwq
        clear hq hq2 cs
        have hl := ev_load HZE.out HUOK.out.prev
        obtain ⟨hst, hb, ho⟩ := ev_fill HZS.out.res HZS.out.only (by have := HZS.out.lo; omega) rfl (f := u) HUOK.out.prev
        have HB := Lib.hid hb
        have HO := Lib.hid ho
        have hinf : (Tryz.prog.info? 29).map (·.size) = some (evC u).toArray.size := by rw [List.size_toArray, evC_len HUOK.out.prev]; kernel_rfl
        have HINF := Lib.hid hinf
        clear hb ho hinf
        go_wp2_with fail
        exact bodyPost_ret (v := .agg (evC u).toArray) (results_blk rfl rfl HB.out Tryz.underlying29 rfl HINF.out) rfl (.inr ⟨u, rfl, HUOK.out, HUN.out, HUT.out, HO.out, fun f hf => (HG9.out f hf).1⟩)
end Go.Proofs.YtclpebgjmgfigaaGreatDoor
