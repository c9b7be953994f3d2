/- What is proved here: several parts. plain facts for the law on the order of votes: what is certified, and who is blamed, is told by which votes there are. No conditions. · two clients side by side: the calls of one leave the other as it is. Conditions: those of the calls. · the law that the order of votes plays no part for a client. Conditions: the world's numbers are bytes; the table of powers of ten lies. -/
import Derived.Test.YtgalfohobgjelaaGreatDoorFo22
import Derived.Test.YtgalfohobgjelaaGreatDoorFo30
import Derived.Test.YtgalfohobgjelaaGreatDoorFo31
import Derived.Deep.DeepCutAuto
namespace Go.Proofs.YtgalfohobgjelaaGreatDoor
theorem best_mem {P : List Pers} {L M : List Vt} (h : ∀ v, v ∈ L ↔ v ∈ M) {o o' : Option Hd} (ho : BestL P L o) (ho' : BestL P M o') : o = o' := by
  have e1 : (fun x => x ∈ L.map (·.head)) = (fun x => x ∈ M.map (·.head)) := by
    funext x
    apply propext
    constructor
    · intro hx
      obtain ⟨v, hv, e⟩ := List.mem_map.1 hx
      exact List.mem_map.2 ⟨v, (h v).1 hv, e⟩
    · intro hx
      obtain ⟨v, hv, e⟩ := List.mem_map.1 hx
      exact List.mem_map.2 ⟨v, (h v).2 hv, e⟩
  have e2 : (fun x => certB P x L) = (fun x => certB P x M) := funext (fun x => certB_congr (fun _ _ v _ => h v) x)
  unfold BestL at ho ho'
  rw [← e1, ← e2] at ho'
  exact BestOn.unique ho ho'
theorem swap_perm {α : Type} {T : List α} {i j : Nat} {x y : α} (hi : T[i]? = some x) (hj : T[j]? = some y) : ((T.set i y).set j x).Perm T := by
  obtain ⟨h1, e1⟩ := List.getElem?_eq_some_iff.1 hi
  obtain ⟨h2, e2⟩ := List.getElem?_eq_some_iff.1 hj
  subst e1 e2
  exact List.set_set_perm h1 h2
/-- Both lists blame the same. -/
theorem order_who {P : List Pers} {V T : List Vt} (h : T.Perm V) : (blL P (takeV [] V)).map (·.who) = (blL P (takeV [] (T ++ T))).map (·.who) :=
  blL_who (fun v => by
    rw [takeV_mem, takeV_mem, List.mem_append, h.mem_iff]
    simp)
theorem order_best {P : List Pers} {V T : List Vt} (h : T.Perm V) {o o' : Option Hd} (ho : BestL P V o) (ho' : BestL P (T ++ T) o') : o = o' :=
  best_mem (fun v => by rw [List.mem_append, h.mem_iff]; simp) ho ho'
end Go.Proofs.YtgalfohobgjelaaGreatDoor
namespace Go.Proofs.YtgalfohobgjelaaGreatDoor
open Go.RowKit Go.Shelf
theorem CliAt.lower {W : World} {base base' : Nat} {c : Cli} (h : CliAt W base c) (hb : base' ≤ base) : CliAt W base' c :=
  ⟨h.blk, Nat.le_trans hb h.lo, h.hok, own_lower h.pers hb, own_lower h.votes hb, h.ok, (by
    rcases h.seen with h1 | ⟨b, h1, h2, h3⟩
    · exact .inl h1
    · exact .inr ⟨b, h1, Nat.le_trans hb h2, h3⟩), h.sok⟩
/-- Two clients. -/
def TwoC (w0 : World) (base C1 C2 top : Nat) (s1 s2 : Vw) (W : World) : Prop :=
  ∃ c d : Cli, (c.C = C1 ∧ c.vw = s1 ∧ CliAt W base c ∧ c.seen = c.votes ∧ ∀ k, c.foot k → k < top) ∧ (d.C = C2 ∧ d.vw = s2 ∧ CliAt W base d ∧ d.seen = d.votes ∧ ∀ k, d.foot k → k < top) ∧ (∀ k, d.foot k → ¬ c.foot k) ∧ base ≤ W.heap.size ∧ top ≤ W.heap.size ∧ Only NoneOf w0 W ∧ w0.heap.size ≤ base
section
variable {w0 : World} {base C1 C2 top : Nat} {s1 s2 : Vw} {W W' : World}
theorem TwoC.swap (h : TwoC w0 base C1 C2 top s1 s2 W) : TwoC w0 base C2 C1 top s2 s1 W := by
  obtain ⟨c, d, hc, hd, hx, h1, h2, h3, h4⟩ := h
  exact ⟨d, c, hd, hc, fun k h h' => hx k h' h, h1, h2, h3, h4⟩
theorem TwoC.keep (h : TwoC w0 base C1 C2 top s1 s2 W) (ho : Only NoneOf W W') : TwoC w0 base C1 C2 top s1 s2 W' := by
  obtain ⟨c, d, ⟨c1, c2, c3, c4, c5⟩, ⟨d1, d2, d3, d4, d5⟩, hx, h1, h2, h3, h4⟩ := h
  exact ⟨c, d, ⟨c1, c2, c3.nn ho, c4, c5⟩, ⟨d1, d2, d3.nn ho, d4, d5⟩, hx, Nat.le_trans h1 ho.size, Nat.le_trans h2 ho.size, h3.trans ho, h4⟩
theorem TwoC.only (h : TwoC w0 base C1 C2 top s1 s2 W) : Only NoneOf w0 W := by
  obtain ⟨_, _, _, _, _, _, _, h3, _⟩ := h
  exact h3
theorem TwoC.left (h : TwoC w0 base C1 C2 top s1 s2 W) : Has w0 base C1 top s1 W := by
  obtain ⟨c, d, ⟨c1, c2, c3, c4, c5⟩, _, _, h1, h2, h3, h4⟩ := h
  exact ⟨c, c1, c2, c3, c4, h1, h2, h3, h4, c5⟩
theorem TwoC.right (h : TwoC w0 base C1 C2 top s1 s2 W) : Has w0 base C2 top s2 W := h.swap.left
/-- Two that are made one after the other. -/
theorem TwoC.made {top2 : Nat} {base2 : Nat} {W2 : World} (h : Has w0 base C1 top s1 W) (ho : Only NoneOf W W2) (h2 : Has w0 base2 C2 top2 s2 W') (hb : top ≤ base2) (hbb : base ≤ base2) (hw : base2 = W2.heap.size) (ho' : Only NoneOf W2 W') : TwoC w0 base C1 C2 top2 s1 s2 W' := by
  obtain ⟨c, c1, c2, c3, c4, c5, c6, c7, c8, c9⟩ := h
  obtain ⟨d, d1, d2, d3, d4, d5, d6, d7, d8, d9⟩ := h2
  have htop : top ≤ top2 := by
    have h1 := d9 d.C (.inl rfl)
    have h2 := (d3.foot_in (.inl rfl)).1
    omega
  exact ⟨c, d, ⟨c1, c2, c3.nn (ho.trans ho'), c4, fun k hk => Nat.lt_of_lt_of_le (c9 k hk) htop⟩, ⟨d1, d2, d3.lower hbb, d4, d9⟩, fun k hk hk' => by
    have h1 := c9 k hk'
    have h2 := (d3.foot_in hk).1
    omega, Nat.le_trans hbb d5, d6, d7, c8⟩
/-- The left one's step. -/
theorem TwoC.step {c d c' : Cli} (hc : CliAt W base c) (hd : d.C = C2 ∧ d.vw = s2 ∧ CliAt W base d ∧ d.seen = d.votes) (hx : ∀ k, d.foot k → ¬ c.foot k) (hb : base ≤ W.heap.size) (h0 : Only NoneOf w0 W) (hw : w0.heap.size ≤ base) (hC : c'.C = C1) (hst : CliStep W W' c c') (hc' : CliAt W' base c') (hs : c'.seen = c'.votes) : TwoC w0 base C1 C2 W'.heap.size c'.vw s2 W' := by
  obtain ⟨d1, d2, d3, d4⟩ := hd
  obtain ⟨o1, o2⟩ := hst.other d3 hx
  exact ⟨c', d, ⟨hC, rfl, hc', hs, fun k hk => (hc'.foot_in hk).2⟩, ⟨d1, d2, o1, d4, fun k hk => (o1.foot_in hk).2⟩, o2, Nat.le_trans hb hst.1.size, Nat.le_refl _, (hst.near hc).only h0 hw, hw⟩
end
theorem TwoC.far {w0 : World} {base C1 C2 top : Nat} {s1 s2 : Vw} {W W' : World} {S : Nat → Prop} (h : TwoC w0 base C1 C2 top s1 s2 W) (ho : Only S W W') (h1 : ∀ k, S k → k < base) (h2 : ∀ k, S k → w0.heap.size ≤ k) : TwoC w0 base C1 C2 top s1 s2 W' := by
  obtain ⟨c, d, ⟨c1, c2, c3, c4, c5⟩, ⟨d1, d2, d3, d4, d5⟩, hx, g1, g2, g3, g4⟩ := h
  exact ⟨c, d, ⟨c1, c2, c3.keep ho (fun k hk hs => by have := (c3.foot_in hk).1; have := h1 k hs; omega), c4, c5⟩, ⟨d1, d2, d3.keep ho (fun k hk hs => by have := (d3.foot_in hk).1; have := h1 k hs; omega), d4, d5⟩, hx, Nat.le_trans g1 ho.size, Nat.le_trans g2 ho.size, g3.trans' ho (fun k hk hs => by have := h2 k hs; omega), g4⟩
theorem Near.lowOwn {base b : Nat} {W W' : World} (h : Near base W W') {e : TypeId} {size n : Nat} {v : Value} {xs : List Value} (hb : W.ownsRow b e size v n xs) (hl : LowS base v) : W'.ownsRow b e size v n xs := by
  obtain ⟨S, ho, h0, _⟩ := h
  refine own_only hb ho (fun k hk hs => ?_)
  rcases hb.2 with ⟨rfl, _⟩ | ⟨g, cap, cur, rfl, _, hh, _⟩
  · simp [Value.ownBlock] at hk
  · have : g = k := by simpa [Value.ownBlock] using hk
    have h1 := hl ⟨g, 0, none⟩ _ _ rfl
    have h2 := h0 k hs
    simp only at h1
    omega
theorem two_head (w0 : World) (ht : Tab w0) {base C1 C2 top : Nat} {s s2 : Vw} (hP : PersOk s.P) (hlen : s.P.length ≤ 1000) (hsm : SmallH s.head) (L : List Vt) (hok : VtsOk L) (hsv : SmallV L) (hL : L.length ≤ 1000) (hn : s.votes.length ≤ 50000) (sv : Value) (Q : List Hs) (hqok : HsOk Q) (hQ : Q.length ≤ 100000) (qv : Value) (w : World) (h : TwoC w0 base C1 C2 top s s2 w) (hs : VtSl w sv L) (hsa : OffV base top w sv) (hq : HaSl w qv Q) (hqa : Off base w qv) :
    Calls Tryz.prog 19 #[.pointer (some ⟨C1, 0, none⟩), sv, qv] w fun e w' => ∃ o, BestL s.P L o ∧ e = .returned (.int .i64 (hdRes o (knownH s.head) Q)) ∧ TwoC w0 base C1 C2 w'.heap.size { s with votes := takeV s.votes L, head := hdNext o (knownH s.head) Q s.head } s2 w' ∧ Near base w w' := by
  obtain ⟨c, d, ⟨rfl, rfl, c3, c4, c5⟩, ⟨d1, d2, d3, d4, d5⟩, hx, h1, h2, h3, h4⟩ := h
  refine (head_any w0 ht c base h4 c4 hP hlen hsm L hok hsv hL hn sv Q hqok hQ qv w h3 c3 h1 hs (hsa c c3 c5) hq (hqa c c3)).mono ?_
  rintro e w' ⟨o, ho, he, vv, mv, hc, hst⟩
  exact ⟨o, ho, he, TwoC.step c3 ⟨d1, d2, d3, d4⟩ hx h1 h3 h4 rfl hst hc rfl, hst.near c3⟩
end Go.Proofs.YtgalfohobgjelaaGreatDoor
namespace Go.Proofs.YtgalfohobgjelaaGreatDoor
open Go.RowKit Go.Shelf
/-- An append under a name that the walk does not open. -/
def apv (ts : Array TypeId) (t : TypeId) (vs : Array Value) : Sem Value := Builtin.append_ ts t vs
theorem apv_eq (ts : Array TypeId) (t : TypeId) (vs : Array Value) : Builtin.append_ ts t vs = apv ts t vs := rfl
attribute [local go_sem ↓ high] wdLoad_eq vtLoad_eq vtStore_eq apv_eq
/-- The arguments. -/
structure OrA (w : World) (B F : Nat) (d : Wd) (kA : Option Addr) (kc x y z t : Nat) (W : World) : Prop where
  wd : Blk W B tWd (wdC d kA kc)
  bits : Blk W F 26 #[.int .u16 (x : Int), .int .u16 (y : Int), .int .u16 (z : Int), .int .u16 (t : Int)]
  only : Only NoneOf w W
section
variable {w : World} {B F : Nat} {d : Wd} {kA : Option Addr} {kc x y z t : Nat} {W W' : World}
theorem OrA.keep (h : OrA w B F d kA kc x y z t W) (ho : Only NoneOf W W') : OrA w B F d kA kc x y z t W' := ⟨h.wd.only ho (fun e => e), h.bits.only ho (fun e => e), h.only.trans ho⟩
theorem OrA.grown {v : Value} {n : Nat} {L : List Vt} (h : OrA w B F d kA kc x y z t W) (hown : VtOwn W w.heap.size v n L) (hg : W.grownBy W' v.ownBlock) : OrA w B F d kA kc x y z t W' :=
  ⟨Blk.grown h.wd hg (fun e => own_blk_ne hown h.wd (by decide) e.symm), Blk.grown h.bits hg (fun e => own_blk_ne hown h.bits (by decide) e.symm), h.only.grown hg (fun j e => .inr (own_ge hown e).1)⟩
end
/-- What lies there in the loop. -/
structure OrL (w : World) (B F : Nat) (d : Wd) (kA : Option Addr) (kc x y z t : Nat) (vA : Option Addr) (vc : Nat) (V : List Vt) (b5 : Nat) (tA : Option Addr) (tc : Nat) (T : List Vt) (W : World) : Prop where
  arg : OrA w B F d kA kc x y z t W
  v : VtOwn W w.heap.size (.slice vA V.length vc) V.length V
  t : VtOwn W b5 (.slice tA V.length tc) V.length T
  low : LowS b5 (.slice vA V.length vc)
  lo5 : w.heap.size ≤ b5
  hi5 : b5 ≤ W.heap.size
theorem OrL.keep {w : World} {B F : Nat} {d : Wd} {kA : Option Addr} {kc x y z t : Nat} {vA : Option Addr} {vc : Nat} {V : List Vt} {b5 : Nat} {tA : Option Addr} {tc : Nat} {T : List Vt} {W W' : World} (h : OrL w B F d kA kc x y z t vA vc V b5 tA tc T W) (ho : Only NoneOf W W') : OrL w B F d kA kc x y z t vA vc V b5 tA tc T W' :=
  ⟨h.arg.keep ho, own_only h.v ho (fun _ _ e => e), own_only h.t ho (fun _ _ e => e), h.low, h.lo5, Nat.le_trans h.hi5 ho.size⟩
/-- .. and not fewer blocks. -/
def OrM (w : World) (B F : Nat) (d : Wd) (kA : Option Addr) (kc x y z t : Nat) (vA : Option Addr) (vc : Nat) (V : List Vt) (b5 : Nat) (tA : Option Addr) (tc : Nat) (T : List Vt) (b6 : Nat) (W : World) : Prop := OrL w B F d kA kc x y z t vA vc V b5 tA tc T W ∧ b6 ≤ W.heap.size
/-- The worlds of the region that swaps two votes: ahead of the first store, between, behind the second. -/
def SwC (S0 S1 S2 : World → Prop) (i1 i2 : Nat) (L : Array Bool) (W : World) : Prop := (L.getD i1 false = false → S0 W) ∧ (L.getD i1 false = true → L.getD i2 false = false → S1 W) ∧ (L.getD i2 false = true → S2 W)
section
variable {S0 S1 S2 : World → Prop} {i1 i2 i : Nat} {L : Array Bool} {W W' : World}
theorem SwC.start (n : Nat) (h : S0 W) : SwC S0 S1 S2 i1 i2 (Array.replicate n false) W :=
  ⟨fun _ => h, fun e => absurd ((getD_replicate_false' n i1).symm.trans e) (by decide), fun e => absurd ((getD_replicate_false' n i2).symm.trans e) (by decide)⟩
theorem SwC.same (h : SwC S0 S1 S2 i1 i2 L W) (n1 : i ≠ i1) (n2 : i ≠ i2) : SwC S0 S1 S2 i1 i2 (L.setIfInBounds i true) W := by
  refine ⟨?_, ?_, ?_⟩
  · rw [set_other n1]; exact h.1
  · rw [set_other n1, set_other n2]; exact h.2.1
  · rw [set_other n2]; exact h.2.2
theorem SwC.put1 (n : i1 ≠ i2) (hl : i1 < L.size) (h2 : L.getD i2 false = false) (k : S1 W') : SwC S0 S1 S2 i1 i2 (L.setIfInBounds i1 true) W' := by
  refine ⟨?_, ?_, ?_⟩
  · rw [set_same hl]; exact fun e => (by cases e)
  · exact fun _ _ => k
  · rw [set_other n, h2]; exact fun e => (by cases e)
theorem SwC.put2 (n : i1 ≠ i2) (hl : i2 < L.size) (h1 : L.getD i1 false = true) (k : S2 W') : SwC S0 S1 S2 i1 i2 (L.setIfInBounds i2 true) W' := by
  refine ⟨?_, ?_, ?_⟩
  · rw [set_other (Ne.symm n), h1]; exact fun e => (by cases e)
  · rw [set_same hl]; exact fun _ e => (by cases e)
  · exact fun _ => k
end
set_option maxRecDepth 100000 in
set_option maxHeartbeats 4000000 in
theorem corder_law (d : Wd) (hd : d.Ok) (kA : Option Addr) (kc : Nat) (sz : Nat) (hsz : sz < 256) (x y z t : Nat) (hx : x < 65536) (hy : y < 65536) (hz : z < 65536) (htt : t < 65536) (w : World) (hkd : KdAt w kA d.kinds) (hkl : d.kinds.length ≤ 1000000000) (ht : Tab w) :
    Calls Tryz.prog 3 #[.agg (wdC d kA kc), .int .u8 (sz : Int), .agg #[.int .u16 (x : Int), .int .u16 (y : Int), .int .u16 (z : Int), .int .u16 (t : Int)]] w fun e w' => e = .returned (.bool true) ∧ Only NoneOf w w' := by
  obtain ⟨B, eB⟩ : ∃ B, B = w.heap.size := ⟨_, rfl⟩
  obtain ⟨F, eF⟩ : ∃ F, F = B + 1 := ⟨_, rfl⟩
  have hA0 : OrA w B F d kA kc x y z t ((w.alloc (.cells (wdC d kA kc) tWd)).alloc (.cells #[.int .u16 (x : Int), .int .u16 (y : Int), .int .u16 (z : Int), .int .u16 (t : Int)] 26)) := by
    have h1 := Blk.new (w.alloc (.cells (wdC d kA kc) tWd)) 26 #[.int .u16 (x : Int), .int .u16 (y : Int), .int .u16 (z : Int), .int .u16 (t : Int)]
    rw [World.size_alloc, ← eB, ← eF] at h1
    exact ⟨by rw [eB]; exact (Blk.new w _ _).alloc _, h1, ((Only.refl _ _).alloc _).alloc _⟩
  obtain ⟨WV, eWV⟩ : ∃ v : Array Value, v = wdC d kA kc := ⟨_, rfl⟩
  obtain ⟨ln, eln⟩ : ∃ n, n = (lvW d false).length := ⟨_, rfl⟩
  have hln : ln ≤ 12 := by rw [eln]; exact lvW_le d false
  have hsan : ∀ W, Only NoneOf w W → Calls Tryz.prog 11 #[] W fun e w' => e = .returned (.bool true) ∧ Only NoneOf W w' := fun W ho => sanity31 W (ht.none ho)
  have hevs : ∀ W (sec : Bool), OrA w B F d kA kc x y z t W → Calls Tryz.prog 13 #[.agg WV, .bool sec] W fun e' w' => ∃ rv, e' = .returned rv ∧ EvSl w' rv (evsW d sec) ∧ OrA w B F d kA kc x y z t w' ∧ Only NoneOf W w' := fun W sec h => by
    rw [eWV]
    exact (wevents_any d hd sec kA kc W (hkd.none_ h.only) hkl (ht.none h.only)).mono (fun e' w' ⟨rv, h1, h2, h3⟩ => ⟨rv, h1, h2.sl (fun e he => (evsW_ok he).1.prev), h.keep h3, h3⟩)
  have hlvs : ∀ W (sec : Bool) rv, OrA w B F d kA kc x y z t W → EvSl W rv (evsW d sec) → Calls Tryz.prog 12 #[rv] W fun e' w' => ∃ A cap, e' = .returned (.slice A ln cap) ∧ StSl w' (.slice A ln cap) (lvW d sec) ∧ OrA w B F d kA kc x y z t w' ∧ Only NoneOf W w' := fun W sec rv hA h =>
    (rleaves_any (evsW d sec) (fun e he => evsW_ok he) (by have := evsW_le d sec; omega) rv W h).mono (fun e' w' ⟨lv, h1, h2, h3⟩ => by
      have e9 : (evsW d sec).length = ln := by rw [eln, lvW_len, evsW_len, evsW_len]
      have e8 : (lvW d sec).length = ln := by rw [lvW_len, e9]
      rw [e9] at h2
      obtain ⟨A, cap, rfl, h4, h5⟩ := own_form' h2
      refine ⟨A, cap, h1, ?_, hA.keep h3, h3⟩
      have h6 : TxOwn w' W.heap.size (.slice A ln cap) (lvW d sec).length (lvW d sec) := by rw [e8]; exact h2
      exact h6.sl)
  have hset : ∀ W, Calls Tryz.prog 18 #[.agg WV] W fun e' w' => ∃ pv, e' = .returned (setV pv) ∧ PerSl w' pv (setW d) ∧ Only NoneOf W w' := fun W => by rw [eWV]; exact wsetup_any d hd kA kc W
  have hnew : ∀ W pv, Only NoneOf w W → PerSl W pv (setW d) → Calls Tryz.prog 17 #[.int .i64 60, setV pv] W fun e w' => ∃ C, e = .returned (.pointer (some ⟨C, 0, none⟩)) ∧ Has w W.heap.size C w'.heap.size ⟨60, setW d, false, ⟨#[]⟩, hd0, [], false⟩ w' ∧ Only NoneOf W w' := fun W pv ho hp => has_new w 60 (setW d) (setW_len _) pv W ho hp
  obtain ⟨n, en⟩ : ∃ n : Nat, n = sz % (ln + 1) := ⟨_, rfl⟩
  have hn : n ≤ ln := by rw [en]; exact Nat.le_of_lt_succ (Nat.mod_lt _ (by omega))
  have kt : (sz : Int).tmod ((ln : Int) + 1) = (n : Int) := by
    rw [Int.tmod_eq_emod_of_nonneg (by omega), en]; rfl
  have kx : IntKind.i64.wrap (sz : Int) = (sz : Int) := IntWalk.i64_in _ (by omega)
  have kl : IntKind.i64.wrap ((ln : Int) + 1) = (ln : Int) + 1 := IntWalk.i64_in _ (by omega)
  have kn : IntKind.i64.wrap (n : Int) = (n : Int) := IntWalk.i64_in _ (by omega)
  have e0 : ¬ (ln : Int) + 1 = 0 := by omega
  have HA0 := Lib.hid hA0
  have EB := Lib.hid eB
  have EF := Lib.hid eF
  have EWV := Lib.hid eWV
  have ELN := Lib.hid eln
  have EN := Lib.hid en
  have HSAN := Lib.hid hsan
  have HEVS := Lib.hid hevs
  have HLVS := Lib.hid hlvs
  have HSET := Lib.hid hset
  have HNEW := Lib.hid hnew
  have HT := Lib.hid ht
  clear hA0 eB eF eWV eln en hsan hevs hlvs hset hnew hkd ht
  go_enter Tryz.func3, Tryz.ntmps3
  go_upto_region 1 with (fail)
  rw [← EB.out, ← EF.out]
  refine wp_gen (OrA w B F d kA kc x y z t) HA0.out ?_
  clear HA0
  intro Z hZ
  have HZ := Lib.hid hZ
  clear hZ
  go_wp2_with fail
  refine (HSAN.out _ HZ.out.only).mono ?_
  rintro e1 w1 ⟨rfl, ho1⟩
  have hS0 : OrA w B F d kA kc x y z t w1.drew := HZ.out.keep (ho1.trans (Only.refl _ _).drew)
  have hld : ∀ W, OrA w B F d kA kc x y z t W → (wdLoad (.pointer (some ⟨B, 0, none⟩))).run Tryz.prog W = .ok (.agg WV) W := fun W h => by rw [EWV.out]; exact wd_load h.wd
  clear ho1 HZ
  go_upto_region 2 with (fail)
  go_cut [8, 9] (fun p q wx => ∃ lA lc mA mc, p = .slice lA ln lc ∧ q = .slice mA ln mc ∧ StSl wx (.slice lA ln lc) (lvW d false) ∧ StSl wx (.slice mA ln mc) (lvW d true) ∧ OrA w B F d kA kc x y z t wx)
  case first =>
   as_aux_lemma =>
    go_region_held3 (fun W => OrA w B F d kA kc x y z t W) (first | (with_reducible assumption))
      (first
        | (go_at_call 13; (with_reducible refine (HEVS.out _ false (by assumption)).mono ?_); rintro e2 w2 ⟨rv2, rfl, hr2, hS2, ho2⟩; (try have hr3 := EvSl.only hr3 ho2); (try have hl5 := StSl.only hl5 ho2); clear ho2)
        | (go_at_call 13; (with_reducible refine (HEVS.out _ true (by assumption)).mono ?_); rintro e3 w3 ⟨rv3, rfl, hr3, hS3, ho3⟩; (try have hr2 := EvSl.only hr2 ho3); (try have hl4 := StSl.only hl4 ho3); clear ho3)
        | (go_at_call 12; (with_reducible refine (HLVS.out _ false _ (by assumption) (by assumption)).mono ?_); rintro e4 w4 ⟨lA, lc, rfl, hl4, hS4, ho4⟩; (try have hr3 := EvSl.only hr3 ho4); (try have hl5 := StSl.only hl5 ho4); clear ho4)
        | (go_at_call 12; (with_reducible refine (HLVS.out _ true _ (by assumption) (by assumption)).mono ?_); rintro e5 w5 ⟨mA, mc, rfl, hl5, hS5, ho5⟩; (try have hr2 := EvSl.only hr2 ho5); (try have hl4 := StSl.only hl4 ho5); clear ho5))
    all_goals
      go_wp2_with fail
      go_meet
      case rel => exact ⟨_, _, _, _, rfl, rfl, by with_reducible assumption, by with_reducible assumption, by with_reducible assumption⟩
  case rest =>
  obtain ⟨lA, lc, mA, mc, rfl, rfl, hl, hm, hA⟩ := hcut
  have hlc : ln ≤ lc := by
    obtain ⟨A, cap, e, h1, _⟩ := id hl
    cases e
    rw [← ELN.out] at h1; exact h1
  have hmc : ln ≤ mc := by
    obtain ⟨A, cap, e, h1, _⟩ := id hm
    cases e
    rw [lvW_same, ← ELN.out] at h1; exact h1
  have hnl : (n : Int) ≤ (lc : Int) := by omega
  have hnm : (n : Int) ≤ (mc : Int) := by omega
  have HL := Lib.hid (And.intro hl (And.intro hm hA))
  clear hl hm hA hS0
  go_upto_region 4 with (fail)
  refine wp_gen (fun Z => StSl Z (.slice lA ln lc) (lvW d false) ∧ StSl Z (.slice mA ln mc) (lvW d true) ∧ OrA w B F d kA kc x y z t Z) HL.out ?_
  clear HL
  rintro X ⟨hl, hm, hA⟩
  obtain ⟨a, ea⟩ : ∃ a, a = hdOf ((lvW d false).take n) := ⟨_, rfl⟩
  obtain ⟨b, eb⟩ : ∃ b, b = hdOf ((lvW d true).take n) := ⟨_, rfl⟩
  have oa : a.Ok := by rw [ea]; exact hdOf_ok (by rw [List.length_take]; omega)
  have ob : b.Ok := by rw [eb]; exact hdOf_ok (by rw [List.length_take]; omega)
  have hsa : SmallH a := by rw [ea]; exact hdOf_small (by rw [List.length_take]; omega)
  have hsb : SmallH b := by rw [eb]; exact hdOf_small (by rw [List.length_take]; omega)
  obtain ⟨L1, eL1⟩ : ∃ L, L = votesW d a x y := ⟨_, rfl⟩
  obtain ⟨L2, eL2⟩ : ∃ L, L = votesW d b z 0 := ⟨_, rfl⟩
  have l1o : VtsOk L1 := by rw [eL1]; exact votesW_ok d oa _ _
  have l2o : VtsOk L2 := by rw [eL2]; exact votesW_ok d ob _ _
  have l1s : SmallV L1 := by rw [eL1]; exact votesW_small d hsa _ _
  have l2s : SmallV L2 := by rw [eL2]; exact votesW_small d hsb _ _
  have l1l : L1.length ≤ 7 := by rw [eL1]; exact votesW_len _ _ _ _
  have l2l : L2.length ≤ 7 := by rw [eL2]; exact votesW_len _ _ _ _
  have c1 : ∀ W, Only NoneOf X W → OrA w B F d kA kc x y z t W → Calls Tryz.prog 15 #[.slice lA n lc] W fun e w' => e = .returned (.agg (hdC a).toArray) ∧ OrA w B F d kA kc x y z t w' ∧ Only NoneOf X w' ∧ Only NoneOf W w' := fun W ho h => by
    rw [ea]
    exact (rheadof_any _ (by rw [List.length_take]; omega) (short_take (lvW_short d false) n) _ W ((hl.only ho).first (k := n) (by rw [← ELN.out]; exact hn))).mono (fun e w' ⟨g1, g2⟩ => ⟨g1, h.keep g2, ho.trans g2, g2⟩)
  have c2 : ∀ W, Only NoneOf X W → OrA w B F d kA kc x y z t W → Calls Tryz.prog 15 #[.slice mA n mc] W fun e w' => e = .returned (.agg (hdC b).toArray) ∧ OrA w B F d kA kc x y z t w' ∧ Only NoneOf X w' ∧ Only NoneOf W w' := fun W ho h => by
    rw [eb]
    exact (rheadof_any _ (by rw [List.length_take]; omega) (short_take (lvW_short d true) n) _ W ((hm.only ho).first (k := n) (by rw [lvW_same, ← ELN.out]; exact hn))).mono (fun e w' ⟨g1, g2⟩ => ⟨g1, h.keep g2, ho.trans g2, g2⟩)
  have v1 : ∀ W, Only NoneOf X W → OrA w B F d kA kc x y z t W → Calls Tryz.prog 14 #[.agg WV, .agg (hdC a).toArray, .int .u16 (x : Int), .int .u16 (y : Int)] W fun e' w' => ∃ rv, e' = .returned rv ∧ VtOwn w' w.heap.size rv L1.length L1 ∧ OrA w B F d kA kc x y z t w' ∧ Only NoneOf X w' ∧ Only NoneOf W w' := fun W ho h => by
    rw [EWV.out, eL1]
    exact (wvotes_any d hd a oa x y hx hy kA kc W).mono (fun e w' ⟨rv, g1, g2, g3⟩ => ⟨rv, g1, own_lower g2 h.only.size, h.keep g3, ho.trans g3, g3⟩)
  have v2 : ∀ W, Only NoneOf X W → OrA w B F d kA kc x y z t W → Calls Tryz.prog 14 #[.agg WV, .agg (hdC b).toArray, .int .u16 (z : Int), .int .u16 0] W fun e' w' => ∃ rv, e' = .returned rv ∧ VtOwn w' w.heap.size rv L2.length L2 ∧ OrA w B F d kA kc x y z t w' ∧ Only NoneOf X w' ∧ Only NoneOf W w' := fun W ho h => by
    rw [EWV.out, eL2]
    exact (wvotes_any d hd b ob z 0 hz (by omega) kA kc W).mono (fun e w' ⟨rv, g1, g2, g3⟩ => ⟨rv, g1, own_lower g2 h.only.size, h.keep g3, ho.trans g3, g3⟩)
  have C1 := Lib.hid c1
  have C2 := Lib.hid c2
  have V1 := Lib.hid v1
  have V2 := Lib.hid v2
  have HLO := Lib.hid (And.intro l1o (And.intro l2o (And.intro l1s (And.intro l2s (And.intro l1l l2l)))))
  have b0 : ∀ W, OrA w B F d kA kc x y z t W → W.cell? ⟨F, 0, none⟩ = some (.int .u16 (x : Int)) := fun W h => h.bits.cell 0
  have b1 : ∀ W, OrA w B F d kA kc x y z t W → W.cell? ⟨F, 1, none⟩ = some (.int .u16 (y : Int)) := fun W h => h.bits.cell 1
  have b2 : ∀ W, OrA w B F d kA kc x y z t W → W.cell? ⟨F, 2, none⟩ = some (.int .u16 (z : Int)) := fun W h => h.bits.cell 2
  have hX0 : Only NoneOf X X.drew := (Only.refl _ _).drew
  have hS0 : OrA w B F d kA kc x y z t X.drew := hA.keep hX0
  clear c1 c2 v1 v2 hl hm hA ea eb oa ob hsa hsb eL1 eL2 l1o l2o l1s l2s l1l l2l
  go_cut [11] (fun p wx => ∃ A cap, p = .slice A (L1 ++ L2).length cap ∧ VtOwn wx w.heap.size (.slice A (L1 ++ L2).length cap) (L1 ++ L2).length (L1 ++ L2) ∧ OrA w B F d kA kc x y z t wx)
  case first =>
   as_aux_lemma =>
    go_region_held3 (fun W => OrA w B F d kA kc x y z t W) (first | (with_reducible assumption))
      (first
        | (go_at_call 15; (with_reducible refine (C1.out _ (by assumption) (by assumption)).mono ?_); rintro e2 w2 ⟨rfl, hS2, hX2, ho2⟩; (try have hv4 := own_only hv4 ho2 (fun _ _ e => e)); (try have hv5 := own_only hv5 ho2 (fun _ _ e => e)); clear ho2)
        | (go_at_call 15; (with_reducible refine (C2.out _ (by assumption) (by assumption)).mono ?_); rintro e3 w3 ⟨rfl, hS3, hX3, ho3⟩; (try have hv4 := own_only hv4 ho3 (fun _ _ e => e)); (try have hv5 := own_only hv5 ho3 (fun _ _ e => e)); clear ho3)
        | (go_at_call 14; (with_reducible refine (V1.out _ (by assumption) (by assumption)).mono ?_); rintro e4 w4 ⟨rv4, rfl, hv4, hS4, hX4, ho4⟩; (try have hv5 := own_only hv5 ho4 (fun _ _ e => e)); clear ho4)
        | (go_at_call 14; (with_reducible refine (V2.out _ (by assumption) (by assumption)).mono ?_); rintro e5 w5 ⟨rv5, rfl, hv5, hS5, hX5, ho5⟩; (try have hv4 := own_only hv4 ho5 (fun _ _ e => e)); clear ho5)
        | (refine step_append_vts (by rfl) _ _ (by rfl) w.heap.size w.heap.size rv4 rv5 L1 L2 (by rfl) (by rfl) HLO.out.2.1 hv4 hv5 (by have := HLO.out.2.2.2.2; omega) (by have h : OrA w B F d kA kc x y z t _ := (by assumption); exact h.only.size) ?_; intro A8 cap8 w8 hown8 hgrow8 hat8; have hS8 : OrA w B F d kA kc x y z t w8 := OrA.grown (by assumption) hv4 hgrow8; clear hgrow8 hat8))
    all_goals
      go_wp2_with fail
      go_meet
      case rel => exact ⟨A8, cap8, by rw [List.length_append], by with_reducible assumption, by with_reducible assumption⟩
  case rest =>
  obtain ⟨vA, vc, rfl, hvo, hA⟩ := hcut
  obtain ⟨V, eV⟩ : ∃ V, V = L1 ++ L2 := ⟨_, rfl⟩
  rw [← eV] at hvo
  rw [← eV]
  have hVo : VtsOk V := fun v hv => by
    rw [eV] at hv
    rcases List.mem_append.1 hv with h | h
    · exact HLO.out.1 v h
    · exact HLO.out.2.1 v h
  have hVs : SmallV V := fun v hv => by
    rw [eV] at hv
    rcases List.mem_append.1 hv with h | h
    · exact HLO.out.2.2.1 v h
    · exact HLO.out.2.2.2.1 v h
  have hVl : V.length ≤ 14 := by
    rw [eV, List.length_append]
    have := HLO.out.2.2.2.2
    omega
  have HVO := Lib.hid (And.intro hVo hVs)
  have HVA := Lib.hid (And.intro hvo hA)
  clear hVo hVs eV hvo hA C1 C2 V1 V2 hX0 hS0 b0 b1 b2 HLO
  go_upto_region 5 with (fail)
  refine wp_gen (fun Z => VtOwn Z w.heap.size (.slice vA V.length vc) V.length V ∧ OrA w B F d kA kc x y z t Z) HVA.out ?_
  clear HVA
  rintro Z ⟨hvo, hA⟩
  have hown0 : VtOwn (Z.alloc (.cells #[] 43)) Z.heap.size (.slice (some ⟨Z.heap.size, 0, none⟩) 0 0) 0 [] :=
    ⟨rfl, .inr ⟨Z.heap.size, 0, #[], rfl, Nat.le_refl _, Blk.new Z _ _, Nat.le_refl _, by rw [maxLen_val]; omega, rfl, rfl⟩⟩
  obtain ⟨tA, tc, W5, hr5, ho5, hg5, hat5⟩ := run_append_vts (Z.alloc (.cells #[] 43)) Z.heap.size w.heap.size _ _ [] V HVO.out.1 hown0 (own_only hvo ((Only.refl NoneOf _).alloc _) (fun _ _ e => e)) (by simp only [List.length_nil]; omega) (by rw [World.size_alloc]; omega) 32
  rw [List.nil_append] at hr5 ho5 hat5
  have hr6 : (apv #[32, 32] 32 #[.slice (some ⟨Z.heap.size, 0, none⟩) 0 0, .slice vA V.length vc]).run Tryz.prog (Z.alloc (.cells #[] 43)) = .ok (.slice tA V.length tc) W5 := hr5
  obtain ⟨b5, eb5⟩ : ∃ n, n = Z.heap.size := ⟨_, rfl⟩
  have hO5 : Only NoneOf Z W5 := ((Only.refl NoneOf Z).alloc _).grown hg5 (fun j e => by cases e; exact .inr (Nat.le_refl _))
  have hL5 : OrL w B F d kA kc x y z t vA vc V b5 tA tc V W5 :=
    ⟨hA.keep hO5, own_only hvo hO5 (fun _ _ e => e), by rw [eb5]; exact ho5, by rw [eb5]; exact low_own hvo (Nat.le_refl _), by rw [eb5]; exact hA.only.size, by rw [eb5]; exact hO5.size⟩
  have HL5 := Lib.hid hL5
  clear hvo hA hown0 hr5 ho5 hg5 hat5 hO5 hL5 eb5
  go_wp2_with fail
  clear hr6
  go_loopw [13] (fun i wr => ∃ (k : Nat) (T : List Vt), i = .int .i64 (k : Int) ∧ 1 ≤ k ∧ k ≤ V.length + 1 ∧ T.Perm V ∧ OrL w B F d kA kc x y z t vA vc V b5 tA tc T wr) (fun i _ => 20 - (intOf i).toNat)
  case atStart => exact ⟨1, V, rfl, Nat.le_refl _, by omega, List.Perm.refl _, HL5.out⟩
  case round =>
    clear HL5
    obtain ⟨k, T, rfl, hk1, hk2, hp, hS⟩ := hrel
    have HS := Lib.hid (And.intro hp hS)
    by_cases hlt : k < V.length
    · have ik : (k : Int) < (V.length : Int) := by omega
      have d1 : decide ((k : Int) < (V.length : Int)) = true := decide_eq_true ik
      have hmu : t * (k + 7) ≤ 65536 * 30 := Nat.mul_le_mul (by omega) (by omega)
      obtain ⟨q, eq⟩ : ∃ q : Nat, q = t * (k + 7) := ⟨_, rfl⟩
      have eqi : (t : Int) * ((k : Int) + 7) = (q : Int) := by rw [eq]; push_cast; rfl
      rw [← eq] at hmu
      clear eq
      have b3 : wr.cell? ⟨F, 3, none⟩ = some (.int .u16 (t : Int)) := hS.arg.bits.cell 3
      clear hS hp
      have hmod : ∀ W, Calls Tryz.prog 16 #[.int .i64 ((q : Int) / 3), .int .i64 ((k : Int) + 1)] W fun e w' => e = .returned (.int .i64 (((q / 3 % (k + 1) : Nat)) : Int)) ∧ w' = W := fun W =>
        (mod04_any ((q : Int) / 3) ((k : Int) + 1) ⟨by omega, by omega⟩ (by omega) (by omega) W).mono (fun e w' ⟨h1, h2⟩ => ⟨by rw [h1]; congr 2, h2⟩)
      obtain ⟨j, ej⟩ : ∃ j : Nat, j = q / 3 % (k + 1) := ⟨_, rfl⟩
      have hjk : j ≤ k := by rw [ej]; exact Nat.le_of_lt_succ (Nat.mod_lt _ (by omega))
      rw [← ej] at hmod
      have HM := Lib.hid hmod
      clear hmod ej
      go_wp2_with fail
      refine (HM.out _).mono ?_
      rintro e6 w6 ⟨rfl, rfl⟩
      have hjl : j < V.length := by omega
      have hTl : T.length = V.length := HS.out.1.length_eq
      obtain ⟨vx, hvx⟩ : ∃ v, T[k]? = some v := ⟨_, List.getElem?_eq_getElem (by rw [hTl]; exact hlt)⟩
      obtain ⟨vy, hvy⟩ : ∃ v, T[j]? = some v := ⟨_, List.getElem?_eq_getElem (by rw [hTl]; exact hjl)⟩
      have hTo : VtsOk T := fun v hv => HVO.out.1 v (HS.out.1.mem_iff.1 hv)
      have ox := hTo _ (List.mem_of_getElem? hvx)
      have oy := hTo _ (List.mem_of_getElem? hvy)
      obtain ⟨gT, tc', e9, _, _, _, _⟩ := own_form HS.out.2.t (by omega)
      cases e9
      have kly : ∀ W, OrL w B F d kA kc x y z t vA vc V b5 (some ⟨gT, 0, none⟩) tc T W → (vtLoad (.pointer (some ⟨gT, j * 36, none⟩))).run Tryz.prog W = .ok (.agg (vtC vy).toArray) W := fun W h => vt_load (h.t.range hTo hvy) oy.head.root
      have klx : ∀ W, OrL w B F d kA kc x y z t vA vc V b5 (some ⟨gT, 0, none⟩) tc T W → (vtLoad (.pointer (some ⟨gT, k * 36, none⟩))).run Tryz.prog W = .ok (.agg (vtC vx).toArray) W := fun W h => vt_load (h.t.range hTo hvx) ox.head.root
      have put : ∀ (T' : List Vt) (i : Nat) (v : Vt), T'.length = V.length → VtsOk T' → i < V.length → v.Ok → ∀ W, OrL w B F d kA kc x y z t vA vc V b5 (some ⟨gT, 0, none⟩) tc T' W → (vtStore (.pointer (some ⟨gT, i * 36, none⟩)) (.agg (vtC v).toArray)).run Tryz.prog W = .ok () (W.setCells gT (i * 36) (vtC v)) ∧ OrL w B F d kA kc x y z t vA vc V b5 (some ⟨gT, 0, none⟩) tc (T'.set i v) (W.setCells gT (i * 36) (vtC v)) := fun T' i v hl ho hi hv W h => by
        have ht' : VtOwn W b5 (.slice (some ⟨gT, 0, none⟩) T'.length tc) T'.length T' := by rw [hl]; exact h.t
        have hge := own_ge h.t (g := gT) rfl
        have hoS : Only (fun k => k = gT) W (W.setCells gT (i * 36) (vtC v)) := only_setCells (S := fun k => k = gT) (Only.refl _ _) gT (i * 36) (.inl rfl) _
        refine ⟨vt_store_own ht' (by rw [hl]; exact hi) hv, ⟨⟨h.arg.wd.only hoS (own_blk_ne h.t h.arg.wd (by decide) ∘ fun e => by rw [e]; rfl), h.arg.bits.only hoS (own_blk_ne h.t h.arg.bits (by decide) ∘ fun e => by rw [e]; rfl), h.arg.only.trans' hoS (fun i9 hi9 e => by have := h.lo5; omega)⟩, own_only h.v hoS (fun q hq e => ?_), ?_, h.low, h.lo5, Nat.le_trans h.hi5 hoS.size⟩⟩
        · obtain ⟨A9, cap9, e9, _, _⟩ := own_form' h.v
          cases A9 with
          | none => cases e9; cases hq
          | some a9 =>
            cases e9
            have h1 := h.low a9 _ _ rfl
            have h2 : a9.block = q := by simpa [Value.ownBlock] using hq
            omega
        · have := ht'.put ho (by rw [hl]; exact hi) hv
          rw [hl] at this
          exact this
      have T1l : (T.set k vy).length = V.length := by rw [List.length_set, hTl]
      have KLY := Lib.hid kly
      have KLX := Lib.hid klx
      have KST1 := Lib.hid (put T k vy hTl hTo hlt oy)
      have KST2 := Lib.hid (put (T.set k vy) j vx T1l (vts_set hTo oy k) hjl ox)
      have HPM := Lib.hid ((swap_perm hvx hvy).trans HS.out.1)
      have ik1 : (k : Int) < (V.length : Int) := ik
      have ij1 : (j : Int) < (V.length : Int) := by omega
      have ik0 : (0 : Int) ≤ (k : Int) := by omega
      have ij0 : (0 : Int) ≤ (j : Int) := by omega
      have hD := HS.out.2.keep (Only.refl NoneOf w6).drew
      clear kly klx put T1l hvx hvy hTo ox oy
      go_upto_region 10 with (fail)
      refine wp_region_flag (SwC (OrL w B F d kA kc x y z t vA vc V b5 (some ⟨gT, 0, none⟩) tc T) (OrL w B F d kA kc x y z t vA vc V b5 (some ⟨gT, 0, none⟩) tc (T.set k vy)) (OrL w B F d kA kc x y z t vA vc V b5 (some ⟨gT, 0, none⟩) tc ((T.set k vy).set j vx)) 13 15) (by kernel_rfl) (by kernel_rfl) (by kernel_rfl) (by kernel_rfl) (SwC.start _ hD) ?_
      refine wpFlag_op (.slice (some ⟨gT, 0, none⟩) V.length tc) (by rfl) ?_ ?_
      · intro L W hdn hr hC
        simp [flagAt, go_sem, flagUpon, ik0, ij0, ik1, ij1]
        exact hC.same (by decide) (by decide)
      refine wpFlag_op (.int .i64 (k : Int)) (by rfl) ?_ ?_
      · intro L W hdn hr hC
        simp [flagAt, go_sem, flagUpon, ik0, ij0, ik1, ij1]
        exact hC.same (by decide) (by decide)
      refine wpFlag_op (.slice (some ⟨gT, 0, none⟩) V.length tc) (by rfl) ?_ ?_
      · intro L W hdn hr hC
        simp [flagAt, go_sem, flagUpon, ik0, ij0, ik1, ij1]
        exact hC.same (by decide) (by decide)
      refine wpFlag_op (.int .i64 (j : Int)) (by rfl) ?_ ?_
      · intro L W hdn hr hC
        simp [flagAt, go_sem, flagUpon, ik0, ij0, ik1, ij1]
        exact hC.same (by decide) (by decide)
      refine wpFlag_op (.slice (some ⟨gT, 0, none⟩) V.length tc) (by rfl) ?_ ?_
      · intro L W hdn hr hC
        simp [flagAt, go_sem, flagUpon, ik0, ij0, ik1, ij1]
        exact hC.same (by decide) (by decide)
      refine wpFlag_op (.int .i64 (j : Int)) (by rfl) ?_ ?_
      · intro L W hdn hr hC
        simp [flagAt, go_sem, flagUpon, ik0, ij0, ik1, ij1]
        exact hC.same (by decide) (by decide)
      refine wpFlag_op (.pointer (some ⟨gT, j * 36, none⟩)) (by rfl) ?_ ?_
      · intro L W hdn hr hC
        simp [flagAt, go_sem, flagUpon, ik0, ij0, ik1, ij1]
        exact hC.same (by decide) (by decide)
      refine wpFlag_op (.agg (vtC vy).toArray) (by rfl) ?_ ?_
      · intro L W hdn hr hC
        have h0 := hC.1 (undone1 hdn hr (by kernel_rfl))
        have e := KLY.out W h0
        simp [flagAt, go_sem, flagUpon, e]
        exact hC.same (by decide) (by decide)
      refine wpFlag_op (.slice (some ⟨gT, 0, none⟩) V.length tc) (by rfl) ?_ ?_
      · intro L W hdn hr hC
        simp [flagAt, go_sem, flagUpon, ik0, ij0, ik1, ij1]
        exact hC.same (by decide) (by decide)
      refine wpFlag_op (.int .i64 (k : Int)) (by rfl) ?_ ?_
      · intro L W hdn hr hC
        simp [flagAt, go_sem, flagUpon, ik0, ij0, ik1, ij1]
        exact hC.same (by decide) (by decide)
      refine wpFlag_op (.pointer (some ⟨gT, k * 36, none⟩)) (by rfl) ?_ ?_
      · intro L W hdn hr hC
        simp [flagAt, go_sem, flagUpon, ik0, ij0, ik1, ij1]
        exact hC.same (by decide) (by decide)
      refine wpFlag_op (.agg (vtC vx).toArray) (by rfl) ?_ ?_
      · intro L W hdn hr hC
        have h0 := hC.1 (undone1 hdn hr (by kernel_rfl))
        have e := KLX.out W h0
        simp [flagAt, go_sem, flagUpon, e]
        exact hC.same (by decide) (by decide)
      refine wpFlag_op (.pointer (some ⟨gT, k * 36, none⟩)) (by rfl) ?_ ?_
      · intro L W hdn hr hC
        simp [flagAt, go_sem, flagUpon, ik0, ij0, ik1, ij1]
        exact hC.same (by decide) (by decide)
      refine wpFlag_op (undef) (by rfl) ?_ ?_
      · intro L W hdn hr hC
        have h0 := hC.1 (ready_undone hr)
        have e := KST1.out W h0
        simp [flagAt, go_sem, flagUpon, e.1]
        exact SwC.put1 (by decide) (ready_lt hr) (undone1 hdn hr (by kernel_rfl)) e.2
      refine wpFlag_op (.pointer (some ⟨gT, j * 36, none⟩)) (by rfl) ?_ ?_
      · intro L W hdn hr hC
        simp [flagAt, go_sem, flagUpon, ik0, ij0, ik1, ij1]
        exact hC.same (by decide) (by decide)
      refine wpFlag_op (undef) (by rfl) ?_ ?_
      · intro L W hdn hr hC
        have h1 := ready_dep hr (j := 13) (by kernel_rfl)
        have h0 := hC.2.1 h1 (ready_undone hr)
        have e := KST2.out W h0
        simp [flagAt, go_sem, flagUpon, e.1]
        exact SwC.put2 (by decide) (ready_lt hr) h1 e.2
      unfold wpFlag
      intro L W hall hC
      have hW := hC.2.2 (hall 15 (by decide))
      have HW := Lib.hid hW
      clear hC hall hW
      simp only [Act.put, List.setIfInBounds_toArray, List.set_cons_succ, List.set_cons_zero]
      go_wp2_with fail
      go_roundw
      case rel => exact ⟨k + 1, _, by go_num, by omega, by omega, HPM.out, HW.out⟩
      case measure => simp [intOf]; omega
    · have ik : ¬ (k : Int) < (V.length : Int) := by omega
      have d1 : decide ((k : Int) < (V.length : Int)) = false := decide_eq_false ik
      clear hS hp
      obtain ⟨b6, eb6⟩ : ∃ n, n = wr.heap.size := ⟨_, rfl⟩
      have hld : ∀ W, OrM w B F d kA kc x y z t vA vc V b5 tA tc T b6 W → (wdLoad (.pointer (some ⟨B, 0, none⟩))).run Tryz.prog W = .ok (.agg WV) W := fun W h => by rw [EWV.out]; exact wd_load h.1.arg.wd
      have h0 : OrM w B F d kA kc x y z t vA vc V b5 tA tc T b6 wr.drew := ⟨HS.out.2.keep (Only.refl _ _).drew, Nat.le_of_eq eb6⟩
      have hlv : LowS b6 (.slice vA V.length vc) := low_own HS.out.2.v (Nat.le_of_eq eb6.symm)
      have hlt' : LowS b6 (.slice tA V.length tc) := low_own HS.out.2.t (Nat.le_of_eq eb6.symm)
      have ks : ∀ W, OrM w B F d kA kc x y z t vA vc V b5 tA tc T b6 W → Calls Tryz.prog 18 #[.agg WV] W fun e' w' => ∃ pv, e' = .returned (setV pv) ∧ PerSl w' pv (setW d) ∧ OrM w B F d kA kc x y z t vA vc V b5 tA tc T b6 w' ∧ Only NoneOf W w' := fun W h => (HSET.out W).mono (fun e' w' ⟨pv, g1, g2, g3⟩ => ⟨pv, g1, g2, ⟨h.1.keep g3, Nat.le_trans h.2 g3.size⟩, g3⟩)
      have kn' : ∀ W pv, OrM w B F d kA kc x y z t vA vc V b5 tA tc T b6 W → PerSl W pv (setW d) → Calls Tryz.prog 17 #[.int .i64 60, setV pv] W fun e w' => ∃ C, e = .returned (.pointer (some ⟨C, 0, none⟩)) ∧ Has w W.heap.size C w'.heap.size ⟨60, setW d, false, ⟨#[]⟩, hd0, [], false⟩ w' ∧ OrM w B F d kA kc x y z t vA vc V b5 tA tc T b6 w' ∧ Only NoneOf W w' ∧ b6 ≤ W.heap.size := fun W pv h hp => (HNEW.out W pv h.1.arg.only hp).mono (fun e w' ⟨C, g1, g2, g3⟩ => ⟨C, g1, g2, ⟨h.1.keep g3, Nat.le_trans h.2 g3.size⟩, g3, h.2⟩)
      have KS := Lib.hid ks
      have KN := Lib.hid kn'
      have HLV := Lib.hid (And.intro hlv hlt')
      clear ks kn' hlv hlt' eb6
      go_upto_region 11 with (fail)
      go_cut [15, 16] (fun p q wx => ∃ base C1 C2 top, p = .pointer (some ⟨C1, 0, none⟩) ∧ q = .pointer (some ⟨C2, 0, none⟩) ∧ TwoC w base C1 C2 top ⟨60, setW d, false, ⟨#[]⟩, hd0, [], false⟩ ⟨60, setW d, false, ⟨#[]⟩, hd0, [], false⟩ wx ∧ OrM w B F d kA kc x y z t vA vc V b5 tA tc T b6 wx ∧ b6 ≤ base)
      case first =>
        go_region_held3 (fun W => OrM w B F d kA kc x y z t vA vc V b5 tA tc T b6 W) (first | (with_reducible assumption))
          (first
            | (go_at_call 18; (fail_if_success (have tst := hp2)); (with_reducible refine (KS.out _ (by assumption)).mono ?_); rintro e2 w2 ⟨pv2, rfl, hp2, hS2, ho2⟩; (try have hh4 := Has.keep hh4 ho2); clear ho2)
            | (go_at_call 18; (with_reducible refine (KS.out _ (by assumption)).mono ?_); rintro e3 w3 ⟨pv3, rfl, hp3, hS3, ho3⟩; (try have hh4 := Has.keep hh4 ho3); have hp2 := PerSl.only hp2 ho3; clear ho3)
            | (go_at_call 17; (fail_if_success (have tst := hh4)); (with_reducible refine (KN.out _ _ (by assumption) (by assumption)).mono ?_); rintro e4 w4 ⟨C4, rfl, hh4, hS4, ho4, hb4⟩; (try have hp3 := PerSl.only hp3 ho4); (try have hp2 := PerSl.only hp2 ho4); clear ho4)
            | (go_at_call 17; (with_reducible refine (KN.out _ _ (by assumption) (by assumption)).mono ?_); rintro e5 w5 ⟨C5, rfl, hh5, hS5, ho5, hb5⟩; have hh6 := TwoC.made hh4 (Only.refl _ _) hh5 hh4.size hh4.base rfl ho5))
        all_goals
          go_wp2_with fail
          go_meet
          case rel => exact ⟨_, _, _, _, rfl, rfl, by first | exact hh6 | exact hh6.swap, hS5, hb4⟩
      case rest =>
      obtain ⟨base, C1, C2, top, rfl, rfl, hTW, hM, hbb⟩ := hcut
      have hlV : LowS base (.slice vA V.length vc) := fun a n cap h => Nat.lt_of_lt_of_le (HLV.out.1 a n cap h) hbb
      have hlT : LowS base (.slice tA V.length tc) := fun a n cap h => Nat.lt_of_lt_of_le (HLV.out.2 a n cap h) hbb
      have hTo : VtsOk T := fun v hv => HVO.out.1 v (HS.out.1.mem_iff.1 hv)
      have hTs : SmallV T := fun v hv => HVO.out.2 v (HS.out.1.mem_iff.1 hv)
      have hTl : T.length = V.length := HS.out.1.length_eq
      have hTTo : VtsOk (T ++ T) := fun v hv => by rcases List.mem_append.1 hv with h | h <;> exact hTo v h
      have hTTs : SmallV (T ++ T) := fun v hv => by rcases List.mem_append.1 hv with h | h <;> exact hTs v h
      have k1 : ∀ W, TwoC w base C1 C2 top ⟨60, setW d, false, ⟨#[]⟩, hd0, [], false⟩ ⟨60, setW d, false, ⟨#[]⟩, hd0, [], false⟩ W → VtSl W (.slice vA V.length vc) V → Calls Tryz.prog 19 #[.pointer (some ⟨C1, 0, none⟩), .slice vA V.length vc, .slice none 0 0] W fun e w' => ∃ o s1, BestL (setW d) V o ∧ s1.P = setW d ∧ s1.votes = takeV [] V ∧ e = .returned (.int .i64 (hdRes o (knownH hd0) [])) ∧ TwoC w base C1 C2 w'.heap.size s1 ⟨60, setW d, false, ⟨#[]⟩, hd0, [], false⟩ w' ∧ Near base W w' := fun W h hv =>
        (two_head w HT.out (s := ⟨60, setW d, false, ⟨#[]⟩, hd0, [], false⟩) (setW_ok d) (setW_len d) hd0_small V HVO.out.1 HVO.out.2 (by omega) (Nat.zero_le _) _ [] (fun _ h => by cases h) (Nat.zero_le _) _ W h hv hlV.offV (haSl_nil _) (off_nil _ _)).mono (fun e w' ⟨o, g1, g2, g3, g4⟩ => ⟨o, _, g1, rfl, rfl, g2, g3, g4⟩)
      have k2 : ∀ W t s1 A cap, TwoC w base C1 C2 t s1 ⟨60, setW d, false, ⟨#[]⟩, hd0, [], false⟩ W → VtSl W (.slice A (T ++ T).length cap) (T ++ T) → OffV base t W (.slice A (T ++ T).length cap) → Calls Tryz.prog 19 #[.pointer (some ⟨C2, 0, none⟩), .slice A (T ++ T).length cap, .slice none 0 0] W fun e w' => ∃ o s2 t', BestL (setW d) (T ++ T) o ∧ s2.P = setW d ∧ s2.votes = takeV [] (T ++ T) ∧ e = .returned (.int .i64 (hdRes o (knownH hd0) [])) ∧ TwoC w base C1 C2 t' s1 s2 w' := fun W t s1 A cap h hv hoff =>
        (two_head w HT.out (s := ⟨60, setW d, false, ⟨#[]⟩, hd0, [], false⟩) (setW_ok d) (setW_len d) hd0_small (T ++ T) hTTo hTTs (by rw [List.length_append]; omega) (Nat.zero_le _) _ [] (fun _ h => by cases h) (Nat.zero_le _) _ W h.swap hv hoff (haSl_nil _) (off_nil _ _)).mono (fun e w' ⟨o, g1, g2, g3, g4⟩ => ⟨o, _, _, g1, rfl, rfl, g2, g3.swap⟩)
      have K1 := Lib.hid k1
      have K2 := Lib.hid k2
      have HTW := Lib.hid hTW
      have HMM := Lib.hid hM
      have HTO := Lib.hid hTo
      have HLL := Lib.hid (And.intro hlV hlT)
      have HBB := Lib.hid hbb
      clear k1 k2 hTW hM hbb hTs hTTo hTTs hlV hlT hTo KS KN hld h0
      go_wp2_with fail
      refine (K1.out _ HTW.out (HMM.out.1.v.sl HVO.out.1)).mono ?_
      rintro e12 w12 ⟨o1, s1, ho1, hsP, hsV, rfl, hT12, hn12⟩
      have hown12 : VtOwn w12 b5 (.slice tA V.length tc) T.length T := by rw [hTl]; exact hn12.lowOwn HMM.out.1.t HLL.out.2
      rw [← hTl] at hown12
      have hb12 : b5 ≤ w12.heap.size := Nat.le_trans HMM.out.1.hi5 hn12.size
      obtain ⟨uA, uc, W13, hr13, ho13, hg13, hat13⟩ := run_append_vts w12 b5 b5 (.slice tA T.length tc) (.slice tA T.length tc) T T HTO.out hown12 hown12 (by omega) hb12 32
      have hr14 : (apv #[32, 32] 32 #[.slice tA V.length tc, .slice tA V.length tc]).run Tryz.prog w12 = .ok (.slice uA (T ++ T).length uc) W13 := by rw [← hTl]; exact hr13
      have hS13 : Only (fun k => (Value.slice tA T.length tc).ownBlock = some k) w12 W13 := (Only.refl _ w12).grown hg13 (fun j e => .inl e)
      have hlow13 : ∀ k, (Value.slice tA T.length tc).ownBlock = some k → k < base ∧ w.heap.size ≤ k := fun k hk => by
        have h1 := (own_ge hown12 hk).1
        have h3 := HS.out.2.lo5
        refine ⟨?_, by omega⟩
        cases tA with
        | none => cases hk
        | some a9 =>
          have h4 := HLL.out.2 a9 _ _ rfl
          have h5 : a9.block = k := by simpa [Value.ownBlock] using hk
          omega
      have hT13 := hT12.far hS13 (fun k hk => (hlow13 k hk).1) (fun k hk => (hlow13 k hk).2)
      have hTT : VtsOk (T ++ T) := fun v hv => by rcases List.mem_append.1 hv with h | h <;> exact HTO.out v h
      have hoff13 : OffV base w12.heap.size W13 (.slice uA (T ++ T).length uc) := fun c hc htop => fun a n cap h hk => by
        rcases hat13 with h1 | h1
        · cases h
          have h2 : (Value.slice tA T.length tc).ownBlock = some a.block := h1.symm.trans rfl
          have h3 := (hc.foot_in hk).1
          have h4 := (hlow13 _ h2).1
          omega
        · cases h
          have h2 : a.block = w12.heap.size := by simpa [Value.ownBlock] using h1
          have := htop _ hk
          omega
      have H13 := Lib.hid (And.intro hT13 (And.intro (ho13.sl hTT) hoff13))
      have HO1 := Lib.hid (And.intro ho1 (And.intro hsP hsV))
      have HTL := Lib.hid hTl
      clear hb12 hr13 hS13 hlow13 hT13 hTT hoff13 ho13 hg13 hat13 hown12 hT12 hn12 ho1 hsP hsV K1 HTW hTl
      go_wp2_with fail
      rw [← List.length_append]
      refine (K2.out _ _ _ _ _ H13.out.1 H13.out.2.1 H13.out.2.2).mono ?_
      rintro e14 w14 ⟨o2, s2, t14, ho2, hs2P, hs2V, rfl, hT14⟩
      have hoo : o1 = o2 := order_best HS.out.1 HO1.out.1 ho2
      subst hoo
      obtain ⟨r, er⟩ : ∃ r, r = hdRes o1 (knownH hd0) [] := ⟨_, rfl⟩
      rw [← er]
      have hvl : V.length ≤ 14 := hVl
      have hlX : (takeV [] V).length ≤ 100000 := by
        have := takeV_len [] V
        simp only [List.length_nil] at this
        omega
      have hlY : (takeV [] (T ++ T)).length ≤ 100000 := by
        have := takeV_len [] (T ++ T)
        have h9 := HTL.out
        simp only [List.length_nil, List.length_append] at this
        omega
      have hwho := order_who (P := setW d) HS.out.1
      have kbx : ∀ W, TwoC w base C1 C2 t14 s1 s2 W → Calls Tryz.prog 20 #[.pointer (some ⟨C1, 0, none⟩)] W fun e w' => ∃ ov, e = .returned ov ∧ BlSl w' ov (blL (setW d) (takeV [] V)) ∧ Only NoneOf W w' := fun W h => by
        have hb := has_blames w HT.out (s := s1) (by rw [HO1.out.2.1]; exact setW_ok d) (by rw [HO1.out.2.1]; exact setW_len d) (by rw [HO1.out.2.2]; exact hlX) W h.left
        rw [HO1.out.2.1, HO1.out.2.2] at hb
        exact hb
      have kby : ∀ W, TwoC w base C1 C2 t14 s1 s2 W → Calls Tryz.prog 20 #[.pointer (some ⟨C2, 0, none⟩)] W fun e w' => ∃ ov, e = .returned ov ∧ BlSl w' ov (blL (setW d) (takeV [] (T ++ T))) ∧ Only NoneOf W w' := fun W h => by
        have hb := has_blames w HT.out (s := s2) (by rw [hs2P]; exact setW_ok d) (by rw [hs2P]; exact setW_len d) (by rw [hs2V]; exact hlY) W h.right
        rw [hs2P, hs2V] at hb
        exact hb
      obtain ⟨BX, eBX⟩ : ∃ l, l = blL (setW d) (takeV [] V) := ⟨_, rfl⟩
      obtain ⟨BY, eBY⟩ : ∃ l, l = blL (setW d) (takeV [] (T ++ T)) := ⟨_, rfl⟩
      rw [← eBX, ← eBY] at hwho
      rw [← eBX] at kbx
      rw [← eBY] at kby
      have hlen : BX.length = BY.length := by
        have := congrArg List.length hwho
        rwa [List.length_map, List.length_map] at this
      have KBX := Lib.hid kbx
      have KBY := Lib.hid kby
      have HW2 := Lib.hid (And.intro hwho hlen)
      have H14 := Lib.hid hT14
      have hrr : (r != r) = false := by simp
      clear kbx kby hwho hT14 er ho2 hs2P hs2V hlX hlY eBX eBY hlen H13 HO1 hvl K2 HMM hr14
      go_wp2_with fail
      refine (KBX.out _ H14.out).mono ?_
      rintro e15 w15 ⟨xv, rfl, ⟨xA, xc, rfl, hxl, hxm, hX⟩, ho15⟩
      have H15 := Lib.hid (And.intro hX (H14.out.keep ho15))
      clear hX ho15 H14
      go_wp2_with fail
      refine (KBY.out _ H15.out.2).mono ?_
      rintro e16 w16 ⟨yv, rfl, ⟨yA, yc, rfl, hyl, hym, hY⟩, ho16⟩
      have hX16 : ∀ (i : Nat) (p : Blm), BX[i]? = some p → ∃ g o, xA = some ⟨g, o, none⟩ ∧ g < w16.heap.size ∧ w16.rangeAt g (o + i * 4) (blmC p) := fun i p hp => by
        obtain ⟨g, o, h1, h2, h3⟩ := H15.out.1 i p hp
        exact ⟨g, o, h1, Nat.lt_of_lt_of_le h2 ho16.size, rng_only h3 ho16⟩
      have H16 := Lib.hid (And.intro hX16 hY)
      have HF16 := Lib.hid (H15.out.2.only.trans ho16)
      clear hX16 hY ho16 H15
      have hln : (BX.length : Int) = (BY.length : Int) := by rw [HW2.out.2]
      have hbne : ((BX.length : Int) != (BY.length : Int)) = false := by rw [hln]; simp
      have HLN := Lib.hid hln
      clear hln
      go_wp2_with fail
      go_loopw [117] (fun i wq => ∃ q : Nat, i = .int .i64 (q : Int) ∧ q ≤ BX.length ∧ Only NoneOf w16 wq) (fun i _ => BX.length - (intOf i).toNat)
      case atStart => exact ⟨0, rfl, Nat.zero_le _, Only.refl _ _⟩
      case round =>
        obtain ⟨q, rfl, hq, ho⟩ := hrel
        by_cases hql : q < BX.length
        · have hqy : q < BY.length := by have := HW2.out.2; omega
          obtain ⟨zx, hzx⟩ : ∃ z, BX[q]? = some z := ⟨_, List.getElem?_eq_getElem hql⟩
          obtain ⟨zy, hzy⟩ : ∃ z, BY[q]? = some z := ⟨_, List.getElem?_eq_getElem hqy⟩
          have hw2 : zx.who = zy.who := by
            have h1 := congrArg (fun l => l[q]?) HW2.out.1
            simp only [List.getElem?_map, hzx, hzy, Option.map_some, Option.some.injEq] at h1
            exact h1
          obtain ⟨gx, ox, rfl, _, hrx⟩ := H16.out.1 q zx hzx
          obtain ⟨gy, oy, rfl, _, hry⟩ := H16.out.2 q zy hzy
          obtain ⟨wh, ewh⟩ : ∃ n : Int, n = zx.who := ⟨_, rfl⟩
          have a0 : wr.cell? ⟨gx, ox + q * 4, none⟩ = some (.int .i64 wh) := by rw [ewh]; exact ho.cell_some (hrx 0 _ rfl) (fun e => e)
          have a1 : wr.cell? ⟨gy, oy + q * 4, none⟩ = some (.int .i64 wh) := by rw [ewh, hw2]; exact ho.cell_some (hry 0 _ rfl) (fun e => e)
          have hwn : (wh != wh) = false := by simp
          have iq : (q : Int) < (BX.length : Int) := by omega
          have iq' : (q : Int) < (BY.length : Int) := by omega
          have iq0 : (0 : Int) ≤ (q : Int) := by omega
          have HQ := Lib.hid ho
          clear ho hrx hry hzx hzy hw2 ewh
          go_upto_region 20 with (fail)
          go_quiet (fail)
          go_wp2_with fail
          go_roundw
          case rel => exact ⟨q + 1, by go_num, by omega, HQ.out.drewN _⟩
          case measure => simp [intOf]; omega
        · obtain rfl : q = BX.length := by omega
          have HF := Lib.hid (HF16.out.trans ho)
          clear ho
          go_wp2_with fail
          go_ret
          exact ⟨rfl, HF.out⟩
end Go.Proofs.YtgalfohobgjelaaGreatDoor
