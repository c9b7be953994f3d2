/- What is proved here: several parts. a client that is nil. No conditions. · a client as its results tell it, and what its calls do to it and leave as it is. Conditions: those of the calls. · plain facts of the client laws' check: its persons, its votes, what they certify, roots that differ. No conditions. · right paths and right growths are accepted. Condition: there are few leaves. · what the client laws share: their persons and votes are well, worlds are read, three heads are put down. Conditions: the world's numbers are bytes. · plain facts for the client laws: the officers of their setups, votes of all of them, heads that blame nobody, two heads that are both certified. No conditions. · two roots differ, by the kernel; the votes that the check's client takes, and whom it blames; error numbers of the laws. No conditions. -/
import Derived.Test.YtgalfohobgjelaaGreatDoorNi18
import Derived.Test.YtgalfohobgjelaaGreatDoorNi19
import Derived.Test.YtgalfohobgjelaaGreatDoorNi22
import Derived.Test.YtgalfohobgjelaaGreatDoorNi26
import Derived.Test.YtgalfohobgjelaaGreatDoorNi27
import Derived.Test.YtgalfohobgjelaaGreatDoorNi30
import Derived.Test.YtgalfohobgjelaaGreatDoorNi31
namespace Go.Proofs.YtgalfohobgjelaaGreatDoor
open Go.RowKit Go.Shelf
set_option maxRecDepth 100000 in
set_option maxHeartbeats 1000000 in
theorem sent_nil (d : Bd) (qA pA : Option Addr) (qk pk : Nat) (w : World) : Calls Tryz.prog 32 #[.pointer none, .agg (bdCells d qA pA qk pk)] w fun e w' => e = .returned (.tuple #[]) ∧ Only NoneOf w w' := by
  have ho : Only NoneOf w (w.alloc (.cells (bdCells d qA pA qk pk) tBid)) := (Only.refl _ _).alloc _
  have HO := Lib.hid ho
  clear ho
  go_enter Tryz.func32, Tryz.ntmps32
  go_wp2_with fail
  go_end0
  exact ⟨rfl, HO.out⟩
set_option maxRecDepth 100000 in
set_option maxHeartbeats 1000000 in
theorem head_nil (sv qv : Value) (w : World) : Calls Tryz.prog 19 #[.pointer none, sv, qv] w fun e w' => e = .returned (.int .i64 1) ∧ Only NoneOf w w' := by
  go_enter Tryz.func19, Tryz.ntmps19
  go_wp2_with fail
  go_ret
  exact ⟨rfl, Only.refl _ _⟩
set_option maxRecDepth 100000 in
set_option maxHeartbeats 1000000 in
theorem receipt_nil (e : Ev) (qv sv : Value) (w : World) : Calls Tryz.prog 30 #[.pointer none, .agg (evC e).toArray, qv, sv] w fun e' w' => e' = .returned (.int .i64 1) ∧ Only NoneOf w w' := by
  have ho : Only NoneOf w (w.alloc (.cells (evC e).toArray tEv)) := (Only.refl _ _).alloc _
  have HO := Lib.hid ho
  clear ho
  go_enter Tryz.func30, Tryz.ntmps30
  go_wp2_with fail
  go_ret
  exact ⟨rfl, HO.out⟩
set_option maxRecDepth 100000 in
set_option maxHeartbeats 1000000 in
theorem blames_nil (w : World) : Calls Tryz.prog 20 #[.pointer none] w fun e w' => e = .returned (.slice none 0 0) ∧ Only NoneOf w w' := by
  go_enter Tryz.func20, Tryz.ntmps20
  go_wp2_with fail
  go_ret
  exact ⟨rfl, Only.refl _ _⟩
set_option maxRecDepth 100000 in
set_option maxHeartbeats 1000000 in
theorem safe_nil (w : World) : Calls Tryz.prog 22 #[.pointer none] w fun e w' => e = .returned (.bool false) ∧ Only NoneOf w w' := by
  go_enter Tryz.func22, Tryz.ntmps22
  go_wp2_with fail
  go_ret
  exact ⟨rfl, Only.refl _ _⟩
end Go.Proofs.YtgalfohobgjelaaGreatDoor
namespace Go.Proofs.YtgalfohobgjelaaGreatDoor
open Go.RowKit Go.Shelf
/-- A client as its results tell it. -/
structure Vw where
  id : Int
  P : List Pers
  sent : Bool
  text : ByteArray
  head : Hd
  votes : List Vt
  rc : Bool
def Cli.vw (c : Cli) : Vw := ⟨c.id, c.P, c.sent, c.text, c.head, c.votes, c.rc⟩
/-- The client at C is so; what belongs to it lies between base and top. -/
def Has (w0 : World) (base C top : Nat) (s : Vw) (W : World) : Prop :=
  ∃ c : Cli, c.C = C ∧ c.vw = s ∧ CliAt W base c ∧ c.seen = c.votes ∧ base ≤ W.heap.size ∧ top ≤ W.heap.size ∧ Only NoneOf w0 W ∧ w0.heap.size ≤ base ∧ ∀ k, c.foot k → k < top
/-- What a client's call leaves as it is. -/
def Near (base : Nat) (W W' : World) : Prop :=
  ∃ S : Nat → Prop, Only S W W' ∧ (∀ k, S k → base ≤ k) ∧ ∀ g t cs, Blk W g t cs → tCli ≠ t → 67 ≠ t → 43 ≠ t → ¬ S g
theorem Near.blk {base : Nat} {W W' : World} (h : Near base W W') {g : Nat} {t : TypeId} {cs : Array Value} (hb : Blk W g t cs) (h1 : tCli ≠ t) (h2 : 67 ≠ t) (h3 : 43 ≠ t) : Blk W' g t cs := by
  obtain ⟨S, ho, _, hS⟩ := h
  exact hb.only ho (hS g t cs hb h1 h2 h3)
theorem Near.own {base b : Nat} {W W' : World} (h : Near base W W') {e : TypeId} {size n : Nat} {v : Value} {xs : List Value} (hb : W.ownsRow b e size v n xs) (h1 : tCli ≠ e) (h2 : 67 ≠ e) (h3 : 43 ≠ e) : W'.ownsRow b e size v n xs := by
  obtain ⟨S, ho, _, hS⟩ := h
  refine own_only hb ho (fun k hk => ?_)
  rcases hb.2 with ⟨rfl, _⟩ | ⟨g, cap, cur, rfl, _, hh, _⟩
  · simp [Value.ownBlock] at hk
  · have : g = k := by simpa [Value.ownBlock] using hk
    subst this
    exact hS g e cur hh h1 h2 h3
theorem Near.only {base : Nat} {w0 W W' : World} (h : Near base W W') (h0 : Only NoneOf w0 W) (hb : w0.heap.size ≤ base) : Only NoneOf w0 W' := by
  obtain ⟨S, ho, h1, _⟩ := h
  exact h0.trans' ho (fun i hi hf => by have := h1 i hf; omega)
theorem CliStep.near {W W' : World} {base : Nat} {c c' : Cli} (h : CliStep W W' c c') (hc : CliAt W base c) : Near base W W' :=
  ⟨c.foot, h.1, fun _ hk => (hc.foot_in hk).1, fun _ _ _ hb h1 h2 h3 => hc.off hb h1 h2 h3⟩
theorem Has.size {w0 W : World} {base C top : Nat} {s : Vw} (h : Has w0 base C top s W) : top ≤ W.heap.size := by
  obtain ⟨c, _, _, _, _, _, h1, _⟩ := h
  exact h1
theorem Has.only {w0 W : World} {base C top : Nat} {s : Vw} (h : Has w0 base C top s W) : Only NoneOf w0 W := by
  obtain ⟨c, _, _, _, _, _, _, h1, _⟩ := h
  exact h1
theorem Has.keep {w0 W W' : World} {base C top : Nat} {s : Vw} (h : Has w0 base C top s W) (ho : Only NoneOf W W') : Has w0 base C top s W' := by
  obtain ⟨c, h1, h2, h3, h4, h5, h6, h7, h8, h9⟩ := h
  exact ⟨c, h1, h2, h3.nn ho, h4, Nat.le_trans h5 ho.size, Nat.le_trans h6 ho.size, h7.trans ho, h8, h9⟩
theorem Has.of {w0 W W' : World} {base C : Nat} {c c' : Cli} (hC : c'.C = C) (h0 : Only NoneOf w0 W) (hb : w0.heap.size ≤ base) (hbw : base ≤ W.heap.size) (hc : CliAt W base c) (hs : CliStep W W' c c') (hc' : CliAt W' base c') (hv : c'.seen = c'.votes) : Has w0 base C W'.heap.size c'.vw W' :=
  ⟨c', hC, rfl, hc', hv, Nat.le_trans hbw hs.1.size, Nat.le_refl _, (hs.near hc).only h0 hb, hb, fun _ hk => (hc'.foot_in hk).2⟩
/-- A slice that does not lie in what belongs to a client. -/
def Off (base : Nat) (W : World) (v : Value) : Prop := ∀ c, CliAt W base c → ApartC c v
theorem off_nil (base : Nat) (W : World) : Off base W (.slice none 0 0) := fun c _ a n cap h => by cases h
theorem off_own {base b : Nat} {W : World} {e : TypeId} {size n : Nat} {v : Value} {xs : List Value} (hb : W.ownsRow b e size v n xs) (h1 : tCli ≠ e) (h2 : 67 ≠ e) (h3 : 43 ≠ e) : Off base W v := fun c hc a m cap hv hk => by
  rcases hb.2 with ⟨rfl, _⟩ | ⟨g, cap', cur, rfl, _, hh, _⟩
  · cases hv
  · cases hv
    exact hc.off hh h1 h2 h3 hk
theorem off_low {base : Nat} {W : World} {v : Value} (h : ∀ a n cap, v = .slice (some a) n cap → a.block < base) : Off base W v := fun c hc a m cap hv hk => by
  have h1 := h a m cap hv
  have h2 := (hc.foot_in hk).1
  omega
theorem apart_top {b n : Nat} {W : World} {c : Cli} {top : Nat} {sv : Value} {xs : List Value} (hown : W.ownsRow b 43 36 sv n xs) (hb : top ≤ b) (ht : ∀ k, c.foot k → k < top) : ApartC c sv := fun a m cap hv hk => by
  rcases hown.2 with ⟨rfl, _⟩ | ⟨g, cap', cur, rfl, hg, hh, _⟩
  · cases hv
  · cases hv
    have := ht g hk
    omega
/-- A slice of votes that does not lie in what belongs to a client. -/
def OffV (base top : Nat) (W : World) (v : Value) : Prop := ∀ c, CliAt W base c → (∀ k, c.foot k → k < top) → ApartC c v
/-- A slice that lies below. -/
def LowS (base : Nat) (v : Value) : Prop := ∀ a n cap, v = .slice (some a) n cap → a.block < base
theorem LowS.off {base : Nat} {W : World} {v : Value} (h : LowS base v) : Off base W v := off_low h
theorem LowS.offV {base top : Nat} {W : World} {v : Value} (h : LowS base v) : OffV base top W v := fun c hc _ => off_low h c hc
theorem offV_top {b n : Nat} {W : World} {base top : Nat} {sv : Value} {xs : List Value} (hown : W.ownsRow b 43 36 sv n xs) (hb : top ≤ b) : OffV base top W sv := fun _ _ ht => apart_top hown hb ht
theorem low_own {W : World} {b base : Nat} {e : TypeId} {size n : Nat} {v : Value} {xs : List Value} (h : W.ownsRow b e size v n xs) (hb : W.heap.size ≤ base) : LowS base v := fun a m cap hv => by
  rcases h.2 with ⟨rfl, _⟩ | ⟨g, cap', cur, rfl, _, hh, _⟩
  · cases hv
  · cases hv
    exact Nat.lt_of_lt_of_le (Blk.lt (t := e) hh) hb
theorem Near.vts {base : Nat} {W W' : World} (h : Near base W W') {v : Value} {L : List Vt} (hs : VtSl W v L) (hl : LowS base v) : VtSl W' v L := by
  obtain ⟨S, ho, h0, _⟩ := h
  exact hs.step ho (fun a n cap e hk => by have := hl a n cap e; have := h0 _ hk; omega)
theorem Near.has {base : Nat} {W W' : World} (h : Near base W W') {v : Value} {L : List Hs} (hs : HaSl W v L) (hl : LowS base v) : HaSl W' v L := by
  obtain ⟨S, ho, h0, _⟩ := h
  exact hs.step ho (fun a n cap e hk => by have := hl a n cap e; have := h0 _ hk; omega)
theorem has_new (w0 : World) (id : Int) (P : List Pers) (hlen : P.length ≤ 1000) (pv : Value) (w : World) (h0 : Only NoneOf w0 w) (hp : PerSl w pv P) :
    Calls Tryz.prog 17 #[.int .i64 id, setV pv] w fun e w' => ∃ C, e = .returned (.pointer (some ⟨C, 0, none⟩)) ∧ Has w0 w.heap.size C w'.heap.size ⟨id, P, false, ⟨#[]⟩, hd0, [], false⟩ w' ∧ Only NoneOf w w' :=
  (new_any id P hlen pv w hp).mono (fun _ _ ⟨C, _, h1, h2, h3⟩ => ⟨C, h1, ⟨_, rfl, rfl, h2, rfl, h3.size, Nat.le_refl _, h0.trans h3, h0.size, fun _ hk => (h2.foot_in hk).2⟩, h3⟩)
theorem has_head (w0 : World) (ht : Tab w0) {base C top : Nat} {s : Vw} (hP : PersOk s.P) (hlen : s.P.length ≤ 1000) (hsm : SmallH s.head) (L : List Vt) (hok : VtsOk L) (hsv : SmallV L) (hL : L.length ≤ 1000) (hn : s.votes.length ≤ 50000) (sv : Value) (Q : List Hs) (hqok : HsOk Q) (hQ : Q.length ≤ 100000) (qv : Value) (w : World) (h : Has w0 base C top s w) (hs : VtSl w sv L) (hsa : OffV base top w sv) (hq : HaSl w qv Q) (hqa : Off base w qv) :
    Calls Tryz.prog 19 #[.pointer (some ⟨C, 0, none⟩), sv, qv] w fun e w' => ∃ o, BestL s.P L o ∧ e = .returned (.int .i64 (hdRes o (knownH s.head) Q)) ∧ Has w0 base C w'.heap.size { s with votes := takeV s.votes L, head := hdNext o (knownH s.head) Q s.head } w' ∧ Near base w w' := by
  obtain ⟨c, rfl, rfl, h3, h4, h5, h6, h7, h8, h9⟩ := h
  refine (head_any w0 ht c base h8 h4 hP hlen hsm L hok hsv hL hn sv Q hqok hQ qv w h7 h3 h5 hs (hsa c h3 h9) hq (hqa c h3)).mono ?_
  rintro e w' ⟨o, ho, he, vv, mv, hc, hst⟩
  exact ⟨o, ho, he, Has.of rfl h7 h8 h5 h3 hst hc rfl, hst.near h3⟩
theorem has_receipt (w0 : World) (ht : Tab w0) {base C top : Nat} {s : Vw} (hP : PersOk s.P) (hpub : ∀ p ∈ s.P, In p.pub) (hlen : s.P.length ≤ 1000) (L : List Vt) (hok : VtsOk L) (hsv : SmallV L) (hL : L.length ≤ 1000) (hn : s.votes.length ≤ 50000) (sv : Value) (e : Ev) (he : e.Ok) (hen : e.name.size ≤ 1000000000) (het : e.text.size ≤ 1000000000) (Q : List Hs) (hqok : HsOk Q) (qv : Value) (w : World) (h : Has w0 base C top s w) (hs : VtSl w sv L) (hsa : OffV base top w sv) (hq : HaSl w qv Q) (hqa : Off base w qv) :
    Calls Tryz.prog 30 #[.pointer (some ⟨C, 0, none⟩), .agg (evC e).toArray, qv, sv] w fun e' w' => ((rcPre s.P s.id s.sent s.text e ≠ 0 ∧ e' = .returned (.int .i64 (rcPre s.P s.id s.sent s.text e)) ∧ Has w0 base C w'.heap.size s w') ∨ (rcPre s.P s.id s.sent s.text e = 0 ∧ ∃ o, BestL s.P L o ∧ e' = .returned (.int .i64 (rcPost o e Q)) ∧ Has w0 base C w'.heap.size { s with votes := takeV s.votes L, rc := s.rc || decide (rcPost o e Q = 0) } w')) ∧ Near base w w' := by
  obtain ⟨c, rfl, rfl, h3, h4, h5, h6, h7, h8, h9⟩ := h
  refine (receipt_any w0 ht c base h8 h4 hP hpub hlen L hok hsv hL hn sv e he hen het Q hqok qv w h7 h3 h5 hs (hsa c h3 h9) hq (hqa c h3)).mono ?_
  rintro e' w' (⟨g1, g2, g3, g4⟩ | ⟨g1, o, g2, g3, vv, mv, hc, hst⟩)
  · exact ⟨.inl ⟨g1, g2, Has.of rfl h7 h8 h5 h3 g4 g3 h4⟩, g4.near h3⟩
  · exact ⟨.inr ⟨g1, o, g2, g3, Has.of rfl h7 h8 h5 h3 hst hc rfl⟩, hst.near h3⟩
theorem has_blames (w0 : World) (ht : Tab w0) {base C top : Nat} {s : Vw} (hP : PersOk s.P) (hlen : s.P.length ≤ 1000) (hn : s.votes.length ≤ 100000) (w : World) (h : Has w0 base C top s w) :
    Calls Tryz.prog 20 #[.pointer (some ⟨C, 0, none⟩)] w fun e w' => ∃ ov, e = .returned ov ∧ BlSl w' ov (blL s.P s.votes) ∧ Only NoneOf w w' := by
  obtain ⟨c, rfl, rfl, h3, h4, h5, h6, h7, h8, h9⟩ := h
  exact blames_any w0 ht c base hP hlen hn w h7 h3
theorem has_safe (w0 : World) (ht : Tab w0) {base C top : Nat} {s : Vw} (hP : PersOk s.P) (hlen : s.P.length ≤ 1000) (hn : s.votes.length ≤ 100000) (w : World) (h : Has w0 base C top s w) :
    Calls Tryz.prog 22 #[.pointer (some ⟨C, 0, none⟩)] w fun e w' => e = .returned (.bool (s.rc && (blL s.P s.votes).isEmpty)) ∧ Only NoneOf w w' := by
  obtain ⟨c, rfl, rfl, h3, h4, h5, h6, h7, h8, h9⟩ := h
  exact safe_any w0 ht c base hP hlen hn w h7 h3
theorem has_sent (w0 : World) (ht : Tab w0) (d : Bd) (hd : d.Ok) {qA pA : Option Addr} {qk pk : Nat} {w : World} (hq : IntSl w qA d.qc) (hp : IntSl w pA d.pc) {base C top : Nat} {s : Vw} (h : Has w0 base C top s w) :
    Calls Tryz.prog 32 #[.pointer (some ⟨C, 0, none⟩), .agg (bdCells d qA pA qk pk)] w fun e w' => e = .returned (.tuple #[]) ∧ Has w0 base C w'.heap.size { s with sent := true, text := encT d, rc := false } w' ∧ Near base w w' := by
  obtain ⟨c, rfl, rfl, h3, h4, h5, h6, h7, h8, h9⟩ := h
  refine (csent_any d hd hq hp (ht.none h7) base c h3).mono ?_
  rintro e w' ⟨g1, g2, g3⟩
  exact ⟨g1, Has.of rfl h7 h8 h5 h3 g3 g2 h4, g3.near h3⟩
end Go.Proofs.YtgalfohobgjelaaGreatDoor
namespace Go.Proofs.YtgalfohobgjelaaGreatDoor
/-- The check's world. -/
def wd3 : Wd := ⟨3, [], 0⟩
theorem wd3_ok : wd3.Ok := ⟨by decide, by decide⟩
theorem setW3 : setW wd3 = setB 4 ++ [bidder 60, bidder 61] := rfl
theorem offs_setW3 : offs (setW wd3) = [offAt 1, offAt 2, offAt 3, offAt 4] := by
  rw [setW3]
  simp [offs, offGo, setB, clerk, offAt, bidder, List.range_succ]
theorem voteW0 (h : Hd) (k : Nat) (hk : bitW 0 k = false) : voteW 0 h k = vAt h k := by
  unfold voteW vAt
  rw [hk]
  simp
theorem bit00 (k : Nat) : bitW 0 k = false := by unfold bitW; simp
theorem votes14 (h : Hd) : votesW wd3 h 14 0 = [vAt h 1, vAt h 2, vAt h 3] := by
  have h4 : wd3.n = 4 := rfl
  unfold votesW
  rw [h4]
  simp only [votesN]
  rw [show bitW 14 1 = true from by decide, show bitW 14 2 = true from by decide, show bitW 14 3 = true from by decide, show bitW 14 4 = false from by decide]
  simp [voteW0 _ _ (bit00 _)]
theorem votes28 (h : Hd) : votesW wd3 h 28 0 = [vAt h 2, vAt h 3, vAt h 4] := by
  have h4 : wd3.n = 4 := rfl
  unfold votesW
  rw [h4]
  simp only [votesN]
  rw [show bitW 28 1 = false from by decide, show bitW 28 2 = true from by decide, show bitW 28 3 = true from by decide, show bitW 28 4 = true from by decide]
  simp [voteW0 _ _ (bit00 _)]
theorem cert14 (h : Hd) : certB (setW wd3) h [vAt h 1, vAt h 2, vAt h 3] = true := by
  unfold certB votesFor
  rw [offs_setW3]
  have hd : ∀ j, eqHd (vAt h j).head h = true := fun j => eqHd_true.2 rfl
  simp [hd, cnts_at, need]
theorem cert28 (h : Hd) : certB (setW wd3) h [vAt h 2, vAt h 3, vAt h 4] = true := by
  unfold certB votesFor
  rw [offs_setW3]
  have hd : ∀ j, eqHd (vAt h j).head h = true := fun j => eqHd_true.2 rfl
  simp [hd, cnts_at, need]
theorem best_nil (P : List Pers) {o : Option Hd} (h : BestL P [] o) : o = none := by
  unfold BestL at h
  cases o with
  | none => rfl
  | some b => exact absurd h.1 (by simp)
theorem best_one {P : List Pers} {L : List Vt} {h : Hd} (hL : ∀ v ∈ L, v.head = h) (hne : L ≠ []) (hc : certB P h L = true) {o : Option Hd} (ho : BestL P L o) : o = some h := by
  have hd : ∀ x, x ∈ L.map (·.head) → x = h := fun x hx => by
    obtain ⟨v, hv, rfl⟩ := List.mem_map.1 hx
    exact hL v hv
  have hm : h ∈ L.map (·.head) := by
    cases L with
    | nil => exact absurd rfl hne
    | cons v l => exact List.mem_map.2 ⟨v, by simp, hL v (by simp)⟩
  cases o with
  | none =>
    have h9 : certB P h L = false := ho h hm
    rw [hc] at h9; cases h9
  | some b =>
    rw [hd b ho.1]
theorem best14 (h : Hd) {o : Option Hd} (ho : BestL (setW wd3) (votesW wd3 h 14 0) o) : o = some h := by
  rw [votes14] at ho
  exact best_one (fun v hv => by simp at hv; rcases hv with rfl | rfl | rfl <;> rfl) (by simp) (cert14 h) ho
theorem best28 (h : Hd) {o : Option Hd} (ho : BestL (setW wd3) (votesW wd3 h 28 0) o) : o = some h := by
  rw [votes28] at ho
  exact best_one (fun v hv => by simp at hv; rcases hv with rfl | rfl | rfl <;> rfl) (by simp) (cert28 h) ho
end Go.Proofs.YtgalfohobgjelaaGreatDoor
namespace Go.Proofs.YtgalfohobgjelaaGreatDoor
theorem ckL_zero (n : Nat) (r : Hs) : ckL 0 n (rootL []) r [] = true := by
  unfold ckL
  simp
theorem ckL_right (l : List (List UInt8)) (m : Nat) (hl : l.length ≤ 1000000) (h1 : 1 ≤ m) (h2 : m < l.length) : ckL m l.length (rootL (l.take m)) (rootL l) (growL l m) = true := by
  obtain ⟨g1, g2⟩ := grow_right l.length l m true (rootL (l.take m)) (Nat.le_refl _) hl h1 (by omega) (fun _ => rfl)
  have hg : growL l m = (growF l.length l m true).reverse := by unfold growL; rw [if_neg (by omega)]
  unfold ckL
  rw [if_neg (by omega)]
  unfold ckB
  rw [hg, List.length_reverse, if_pos g1, List.reverse_reverse, g2]
  simp
/-- The same from no leaves on. -/
theorem ckL_grow (l : List (List UInt8)) (m : Nat) (hl : l.length ≤ 1000000) (h2 : m < l.length) : ckL m l.length (rootL (l.take m)) (rootL l) (growL l m) = true := by
  by_cases h0 : m = 0
  · subst h0
    have hg : growL l 0 = [] := by unfold growL; rw [if_pos (.inl rfl)]
    rw [hg, List.take_zero]
    exact ckL_zero _ _
  · exact ckL_right l m hl (by omega) h2
end Go.Proofs.YtgalfohobgjelaaGreatDoor
namespace Go.Proofs.YtgalfohobgjelaaGreatDoor
open Go.RowKit Go.Shelf
theorem setW_mem {d : Wd} {p : Pers} (h : p ∈ setW d) : p ∈ setB d.n ∨ p = bidder 60 ∨ p = bidder 61 := by
  unfold setW at h
  rcases List.mem_append.1 h with h | h
  · exact .inl h
  · simp only [List.mem_cons, List.not_mem_nil, or_false] at h
    exact .inr h
theorem wdn_le (d : Wd) : d.n ≤ 7 := by unfold Wd.n; omega
theorem setW_ok (d : Wd) : PersOk (setW d) := fun p hp => by
  rcases setW_mem hp with h | rfl | rfl
  · exact setB_ok d.n (by have := wdn_le d; omega) p h
  · exact ⟨⟨by decide, by decide⟩, ⟨by decide, by decide⟩, gp_in _⟩
  · exact ⟨⟨by decide, by decide⟩, ⟨by decide, by decide⟩, gp_in _⟩
theorem setW_len (d : Wd) : (setW d).length ≤ 1000 := by
  unfold setW
  rw [List.length_append, setB_len]
  have := wdn_le d
  simp only [List.length_cons, List.length_nil]
  omega
theorem votesN_head (yes odd : Nat) (h : Hd) : ∀ n, ∀ v ∈ votesN yes odd h n, v.head = h
  | 0, v, hv => by simp [votesN] at hv
  | n + 1, v, hv => by
    simp only [votesN, List.mem_append] at hv
    rcases hv with hv | hv
    · exact votesN_head yes odd h n v hv
    · split at hv
      · simp only [List.mem_singleton] at hv
        subst hv
        rfl
      · simp at hv
theorem votesW_head {d : Wd} {h : Hd} {yes odd : Nat} {v : Vt} (hv : v ∈ votesW d h yes odd) : v.head = h := votesN_head _ _ _ _ v hv
theorem votesW_ok (d : Wd) {h : Hd} (ok : h.Ok) (yes odd : Nat) : VtsOk (votesW d h yes odd) := votesN_ok yes odd h ok d.n (by have := wdn_le d; omega)
theorem votesW_small (d : Wd) {h : Hd} (hs : SmallH h) (yes odd : Nat) : SmallV (votesW d h yes odd) := fun v hv => by rw [votesW_head hv]; exact hs
theorem hdOf_small {L : List ByteArray} (h : L.length ≤ 1000) : SmallH (hdOf L) := ⟨L.length, rfl, h⟩
theorem hd0_small : SmallH hd0 := ⟨0, rfl, by omega⟩
def wdLoad (v : Value) : Sem Value := Instr.loadAt 24 v
theorem wdLoad_eq (v : Value) : Instr.loadAt 24 v = wdLoad v := rfl
theorem wd_load {W : World} {g : Nat} {d : Wd} {kA : Option Addr} {kc : Nat} (h : Blk W g tWd (wdC d kA kc)) : (wdLoad (.pointer (some ⟨g, 0, none⟩))).run Tryz.prog W = .ok (.agg (wdC d kA kc)) W :=
  run_loadAt_mid W g 0 24 [.int .u8 (d.off : Int), .slice kA d.kinds.length kc, .int .u8 (d.fork : Int)] _ (blk_range h) Tryz.underlying24 rfl (by kernel_rfl)
/-- Three heads in three blocks. -/
theorem three_heads (W : World) {a b c : Hd} (la : a.root.length = 32) (lb : b.root.length = 32) (lc : c.root.length = 32) (N M K : Nat) (hN : N = W.heap.size) (hM : M = N + 1) (hK : K = M + 1) :
    ∃ W3, W3 = ((W.alloc (.cells hd0C tHd)).alloc (.cells hd0C tHd)).alloc (.cells hd0C tHd) ∧
      (hdStore (.pointer (some ⟨N, 0, none⟩)) (.agg (hdC a).toArray)).run Tryz.prog W3 = .ok () (W3.setCells N 0 (hdC a)) ∧
      (hdStore (.pointer (some ⟨M, 0, none⟩)) (.agg (hdC b).toArray)).run Tryz.prog (W3.setCells N 0 (hdC a)) = .ok () ((W3.setCells N 0 (hdC a)).setCells M 0 (hdC b)) ∧
      (hdStore (.pointer (some ⟨K, 0, none⟩)) (.agg (hdC c).toArray)).run Tryz.prog ((W3.setCells N 0 (hdC a)).setCells M 0 (hdC b)) = .ok () (((W3.setCells N 0 (hdC a)).setCells M 0 (hdC b)).setCells K 0 (hdC c)) ∧
      HdAt (((W3.setCells N 0 (hdC a)).setCells M 0 (hdC b)).setCells K 0 (hdC c)) N a ∧
      HdAt (((W3.setCells N 0 (hdC a)).setCells M 0 (hdC b)).setCells K 0 (hdC c)) M b ∧
      HdAt (((W3.setCells N 0 (hdC a)).setCells M 0 (hdC b)).setCells K 0 (hdC c)) K c ∧
      Only NoneOf W (((W3.setCells N 0 (hdC a)).setCells M 0 (hdC b)).setCells K 0 (hdC c)) := by
  obtain ⟨W3, e3⟩ : ∃ W3, W3 = ((W.alloc (.cells hd0C tHd)).alloc (.cells hd0C tHd)).alloc (.cells hd0C tHd) := ⟨_, rfl⟩
  have b1 : Blk W3 N tHd hd0C := by rw [e3, hN]; exact ((Blk.new W _ _).alloc _).alloc _
  have b2 : Blk W3 M tHd hd0C := by
    have h := (Blk.new (W.alloc (.cells hd0C tHd)) tHd hd0C).alloc (.cells hd0C tHd)
    rw [World.size_alloc] at h
    rw [e3, hM, hN]; exact h
  have b3 : Blk W3 K tHd hd0C := by
    have h := Blk.new ((W.alloc (.cells hd0C tHd)).alloc (.cells hd0C tHd)) tHd hd0C
    rw [World.size_alloc, World.size_alloc] at h
    rw [e3, hK, hM, hN]; exact h
  have n1 : M ≠ N := by omega
  have n2 : K ≠ N := by omega
  have n3 : K ≠ M := by omega
  have b2' : Blk (W3.setCells N 0 (hdC a)) M tHd hd0C := Blk.farCells n1 _ 0 b2
  have b3' : Blk ((W3.setCells N 0 (hdC a)).setCells M 0 (hdC b)) K tHd hd0C := Blk.farCells n3 _ 0 (Blk.farCells n2 _ 0 b3)
  have f1 : HdAt (W3.setCells N 0 (hdC a)) N a := filled_whole b1 (by rw [hdC_len la]; rfl)
  have f2 : HdAt ((W3.setCells N 0 (hdC a)).setCells M 0 (hdC b)) M b := filled_whole b2' (by rw [hdC_len lb]; rfl)
  have f3 : HdAt (((W3.setCells N 0 (hdC a)).setCells M 0 (hdC b)).setCells K 0 (hdC c)) K c := filled_whole b3' (by rw [hdC_len lc]; rfl)
  refine ⟨W3, e3, hd_store b1 rfl la, hd_store b2' rfl lb, hd_store b3' rfl lc, Blk.farCells (Ne.symm n2) _ 0 (Blk.farCells (Ne.symm n1) _ 0 f1), Blk.farCells (Ne.symm n3) _ 0 f2, f3, ?_⟩
  rw [e3]
  exact only_setCells (only_setCells (only_setCells ((((Only.refl _ _).alloc _).alloc _).alloc _) N 0 (.inr (by omega)) _) M 0 (.inr (by omega)) _) K 0 (.inr (by omega)) _
end Go.Proofs.YtgalfohobgjelaaGreatDoor
namespace Go.Proofs.YtgalfohobgjelaaGreatDoor
theorem agT_sizes {a b : Hd} (h : a.size ≠ b.size) : agT a b = true := by
  unfold agT
  rw [agB_cases]
  simp [h]
theorem agT_roots {a b : Hd} (h : a.size = b.size) (hn : a ≠ b) : agT a b = false := by
  unfold agT
  rw [agB_cases]
  have : eqHd a b = false := by
    cases he : eqHd a b with
    | false => rfl
    | true => exact absurd (eqHd_true.1 he) hn
  simp [h, this]
end Go.Proofs.YtgalfohobgjelaaGreatDoor
namespace Go.Proofs.YtgalfohobgjelaaGreatDoor
open Go.RowKit Go.Shelf
set_option maxRecDepth 100000 in
theorem roots_differ : (rootL [[97], [98], [99]] == rootL [[97], [98], [120]]) = false := by decide +kernel
theorem vAt_inj {a b : Hd} {i j : Nat} (h : vAt a i = vAt b j) : i = j ∧ a = b := by
  have h1 : (vAt a i).who = (vAt b j).who := by rw [h]
  have h2 : (vAt a i).head = (vAt b j).head := by rw [h]
  have h3 : (i : Int) = (j : Int) := h1
  exact ⟨by omega, h2⟩
theorem eqVt_id (v : Vt) : eqVt v v = true := eqVt_true.2 rfl
theorem eqVt_ix (a b : Hd) {i j : Nat} (h : i ≠ j) : eqVt (vAt a i) (vAt b j) = false := eqVt_false.2 (fun e => h (vAt_inj e).1)
theorem eqVt_hd {a b : Hd} (h : a ≠ b) (i j : Nat) : eqVt (vAt a i) (vAt b j) = false := eqVt_false.2 (fun e => h (vAt_inj e).2)
section
variable {a b x : Hd} (hab : a ≠ b) (hax : a ≠ x) (hbx : b ≠ x)
theorem take_one (a : Hd) : takeV [] [vAt a 1, vAt a 2, vAt a 3] = [vAt a 1, vAt a 2, vAt a 3] := by
  rw [takeV_fold]
  simp [take1, hasB, eqVt_ix a a (show (2 : Nat) ≠ 1 by decide), eqVt_ix a a (show (3 : Nat) ≠ 1 by decide), eqVt_ix a a (show (3 : Nat) ≠ 2 by decide)]
include hab in
theorem take_two : takeV [vAt a 1, vAt a 2, vAt a 3] [vAt b 1, vAt b 2, vAt b 3] = [vAt a 1, vAt a 2, vAt a 3, vAt b 1, vAt b 2, vAt b 3] := by
  rw [takeV_fold]
  simp [take1, hasB, eqVt_hd (Ne.symm hab), eqVt_ix b b (show (2 : Nat) ≠ 1 by decide), eqVt_ix b b (show (3 : Nat) ≠ 1 by decide), eqVt_ix b b (show (3 : Nat) ≠ 2 by decide)]
theorem take_again : takeV [vAt a 1, vAt a 2, vAt a 3, vAt b 1, vAt b 2, vAt b 3] [vAt a 1, vAt a 2, vAt a 3] = [vAt a 1, vAt a 2, vAt a 3, vAt b 1, vAt b 2, vAt b 3] := by
  rw [takeV_fold]
  simp [take1, hasB, eqVt_id]
include hax hbx in
theorem take_three : takeV [vAt a 1, vAt a 2, vAt a 3, vAt b 1, vAt b 2, vAt b 3] [vAt x 2, vAt x 3, vAt x 4] = [vAt a 1, vAt a 2, vAt a 3, vAt b 1, vAt b 2, vAt b 3, vAt x 2, vAt x 3, vAt x 4] := by
  rw [takeV_fold]
  simp [take1, hasB, eqVt_hd (Ne.symm hax), eqVt_hd (Ne.symm hbx), eqVt_ix x x (show (3 : Nat) ≠ 2 by decide), eqVt_ix x x (show (4 : Nat) ≠ 2 by decide), eqVt_ix x x (show (4 : Nat) ≠ 3 by decide)]
end
theorem offAt_id (k : Nat) : (offAt k).id = (k : Int) := rfl
theorem vAt_head (h : Hd) (k : Nat) : (vAt h k).head = h := rfl
section
variable {a b x : Hd} (hab : a.size ≠ b.size) (hax : a.size ≠ x.size) (hbx : b.size = x.size) (hne : b ≠ x)
include hab in
theorem blames_none : blL (setW wd3) [vAt a 1, vAt a 2, vAt a 3, vAt b 1, vAt b 2, vAt b 3] = [] := by
  unfold blL clashL
  rw [offs_setW3]
  simp [clashO, blmOf, cnts_at, firstP_cons, firstP_nil, vAt_head, agT_sizes hab]
include hab hax hbx hne in
theorem blames_two : blL (setW wd3) [vAt a 1, vAt a 2, vAt a 3, vAt b 1, vAt b 2, vAt b 3, vAt x 2, vAt x 3, vAt x 4] = [⟨2, vAt b 2, vAt x 2⟩, ⟨3, vAt b 3, vAt x 3⟩] := by
  unfold blL clashL
  rw [offs_setW3]
  simp [clashO, blmOf, cnts_at, firstP_cons, firstP_nil, vAt_head, agT_sizes hab, agT_sizes hax, agT_roots hbx hne, offAt_id]
end
end Go.Proofs.YtgalfohobgjelaaGreatDoor
