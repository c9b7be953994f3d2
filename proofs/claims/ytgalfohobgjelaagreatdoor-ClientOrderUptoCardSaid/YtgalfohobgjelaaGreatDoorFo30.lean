/- What is proved here: several parts. a client is shown a receipt. Conditions: those of certified; the event is well and short. · a client as its results tell it, and what its calls do to it and leave as it is. Conditions: those of the calls. · plain facts of the client laws' check: its persons, its votes, what they certify, roots that differ. No conditions. · right paths and right growths are accepted. Condition: there are few leaves. · what the client laws share: their persons and votes are well, worlds are read, three heads are put down. Conditions: the world's numbers are bytes. · plain facts for the laws on the order of votes, on overlaps, liars and honest officers. No conditions. · plain facts for the client laws: the officers of their setups, votes of all of them, heads that blame nobody, two heads that are both certified. No conditions. · what the client laws share: their events are well, short and verified; slices of leaves; bytes of slices. Conditions: the world's numbers are bytes. -/
import Derived.Test.YtgalfohobgjelaaGreatDoorFo04
import Derived.Test.YtgalfohobgjelaaGreatDoorFo18
import Derived.Test.YtgalfohobgjelaaGreatDoorFo19
import Derived.Test.YtgalfohobgjelaaGreatDoorFo20
import Derived.Test.YtgalfohobgjelaaGreatDoorFo21
import Derived.Test.YtgalfohobgjelaaGreatDoorFo22
import Derived.Test.YtgalfohobgjelaaGreatDoorFo24
import Derived.Test.YtgalfohobgjelaaGreatDoorFo25
import Derived.Test.YtgalfohobgjelaaGreatDoorFo26
import Derived.Test.YtgalfohobgjelaaGreatDoorFo28
import Derived.Test.YtgalfohobgjelaaGreatDoorFo29
import Derived.BigQuiet
import Derived.BigRegion
import Derived.Deep.DeepCutAuto
namespace Go.Proofs.YtgalfohobgjelaaGreatDoor
open Go.RowKit Go.Shelf
attribute [local go_sem ↓ high] suLoad_eq evLoad_eq hdLoad_eq hdNew_eq hdStore_eq
theorem evCode_short {e : Ev} (he : e.Ok) (hn : e.name.size ≤ 1000000000) (hx : e.text.size ≤ 1000000000) : (evCode e).length ≤ 17592186044416 := by
  have l1 := numsL_len e.nums he.nums_in
  have l2 := hexL_len e.prev
  have l3 := quoL_len e.name.data.toList (by rw [← size_list]; omega)
  have l4 := quoL_len e.text.data.toList (by rw [← size_list]; omega)
  have l0 := numsL_len [e.r, e.s] (by
    intro x hx
    simp only [List.mem_cons, List.not_mem_nil, or_false] at hx
    rcases hx with rfl | rfl
    · exact he.r
    · exact he.s)
  rw [← size_list] at l3 l4
  rw [he.prev] at l2
  have l5 : e.nums.length = 10 := rfl
  simp only [List.length_cons, List.length_nil] at l0
  unfold evCode evText
  simp only [List.length_append, List.length_cons, List.length_nil]
  omega
end Go.Proofs.YtgalfohobgjelaaGreatDoor
namespace Go.Proofs.YtgalfohobgjelaaGreatDoor
open Go.RowKit Go.Shelf
/-- A client as its results tell it. -/
structure Vw where
  id : Int
  P : List Pers
  sent : Bool
  text : ByteArray
  head : Hd
  votes : List Vt
  rc : Bool
def Cli.vw (c : Cli) : Vw := ⟨c.id, c.P, c.sent, c.text, c.head, c.votes, c.rc⟩
/-- The client at C is so; what belongs to it lies between base and top. -/
def Has (w0 : World) (base C top : Nat) (s : Vw) (W : World) : Prop :=
  ∃ c : Cli, c.C = C ∧ c.vw = s ∧ CliAt W base c ∧ c.seen = c.votes ∧ base ≤ W.heap.size ∧ top ≤ W.heap.size ∧ Only NoneOf w0 W ∧ w0.heap.size ≤ base ∧ ∀ k, c.foot k → k < top
/-- What a client's call leaves as it is. -/
def Near (base : Nat) (W W' : World) : Prop :=
  ∃ S : Nat → Prop, Only S W W' ∧ (∀ k, S k → base ≤ k) ∧ ∀ g t cs, Blk W g t cs → tCli ≠ t → 67 ≠ t → 43 ≠ t → ¬ S g
theorem Near.size {base : Nat} {W W' : World} (h : Near base W W') : W.heap.size ≤ W'.heap.size := by
  obtain ⟨S, h1, _⟩ := h
  exact h1.size
theorem Near.blk {base : Nat} {W W' : World} (h : Near base W W') {g : Nat} {t : TypeId} {cs : Array Value} (hb : Blk W g t cs) (h1 : tCli ≠ t) (h2 : 67 ≠ t) (h3 : 43 ≠ t) : Blk W' g t cs := by
  obtain ⟨S, ho, _, hS⟩ := h
  exact hb.only ho (hS g t cs hb h1 h2 h3)
theorem Near.own {base b : Nat} {W W' : World} (h : Near base W W') {e : TypeId} {size n : Nat} {v : Value} {xs : List Value} (hb : W.ownsRow b e size v n xs) (h1 : tCli ≠ e) (h2 : 67 ≠ e) (h3 : 43 ≠ e) : W'.ownsRow b e size v n xs := by
  obtain ⟨S, ho, _, hS⟩ := h
  refine own_only hb ho (fun k hk => ?_)
  rcases hb.2 with ⟨rfl, _⟩ | ⟨g, cap, cur, rfl, _, hh, _⟩
  · simp [Value.ownBlock] at hk
  · have : g = k := by simpa [Value.ownBlock] using hk
    subst this
    exact hS g e cur hh h1 h2 h3
theorem Near.only {base : Nat} {w0 W W' : World} (h : Near base W W') (h0 : Only NoneOf w0 W) (hb : w0.heap.size ≤ base) : Only NoneOf w0 W' := by
  obtain ⟨S, ho, h1, _⟩ := h
  exact h0.trans' ho (fun i hi hf => by have := h1 i hf; omega)
theorem CliStep.near {W W' : World} {base : Nat} {c c' : Cli} (h : CliStep W W' c c') (hc : CliAt W base c) : Near base W W' :=
  ⟨c.foot, h.1, fun k hk => (hc.foot_in hk).1, fun g t cs hb h1 h2 h3 => hc.off hb h1 h2 h3⟩
theorem Has.size {w0 W : World} {base C top : Nat} {s : Vw} (h : Has w0 base C top s W) : top ≤ W.heap.size := by
  obtain ⟨c, _, _, _, _, _, h1, _⟩ := h
  exact h1
theorem Has.base {w0 W : World} {base C top : Nat} {s : Vw} (h : Has w0 base C top s W) : base ≤ W.heap.size := by
  obtain ⟨c, _, _, _, _, h1, _⟩ := h
  exact h1
theorem Has.only {w0 W : World} {base C top : Nat} {s : Vw} (h : Has w0 base C top s W) : Only NoneOf w0 W := by
  obtain ⟨c, _, _, _, _, _, _, h1, _⟩ := h
  exact h1
theorem Has.keep {w0 W W' : World} {base C top : Nat} {s : Vw} (h : Has w0 base C top s W) (ho : Only NoneOf W W') : Has w0 base C top s W' := by
  obtain ⟨c, h1, h2, h3, h4, h5, h6, h7, h8, h9⟩ := h
  exact ⟨c, h1, h2, h3.nn ho, h4, Nat.le_trans h5 ho.size, Nat.le_trans h6 ho.size, h7.trans ho, h8, h9⟩
theorem Has.of {w0 W W' : World} {base C : Nat} {c c' : Cli} (hC : c'.C = C) (h0 : Only NoneOf w0 W) (hb : w0.heap.size ≤ base) (hbw : base ≤ W.heap.size) (hc : CliAt W base c) (hs : CliStep W W' c c') (hc' : CliAt W' base c') (hv : c'.seen = c'.votes) : Has w0 base C W'.heap.size c'.vw W' :=
  ⟨c', hC, rfl, hc', hv, Nat.le_trans hbw hs.1.size, Nat.le_refl _, (hs.near hc).only h0 hb, hb, fun k hk => (hc'.foot_in hk).2⟩
/-- A slice that does not lie in what belongs to a client. -/
def Off (base : Nat) (W : World) (v : Value) : Prop := ∀ c, CliAt W base c → ApartC c v
theorem off_nil (base : Nat) (W : World) : Off base W (.slice none 0 0) := fun c _ a n cap h => by cases h
theorem off_own {base b : Nat} {W : World} {e : TypeId} {size n : Nat} {v : Value} {xs : List Value} (hb : W.ownsRow b e size v n xs) (h1 : tCli ≠ e) (h2 : 67 ≠ e) (h3 : 43 ≠ e) : Off base W v := fun c hc a m cap hv hk => by
  rcases hb.2 with ⟨rfl, _⟩ | ⟨g, cap', cur, rfl, _, hh, _⟩
  · cases hv
  · cases hv
    exact hc.off hh h1 h2 h3 hk
theorem off_low {base : Nat} {W : World} {v : Value} (h : ∀ a n cap, v = .slice (some a) n cap → a.block < base) : Off base W v := fun c hc a m cap hv hk => by
  have h1 := h a m cap hv
  have h2 := (hc.foot_in hk).1
  omega
theorem apart_top {b n : Nat} {W : World} {c : Cli} {top : Nat} {sv : Value} {xs : List Value} (hown : W.ownsRow b 43 36 sv n xs) (hb : top ≤ b) (ht : ∀ k, c.foot k → k < top) : ApartC c sv := fun a m cap hv hk => by
  rcases hown.2 with ⟨rfl, _⟩ | ⟨g, cap', cur, rfl, hg, hh, _⟩
  · cases hv
  · cases hv
    have := ht g hk
    omega
/-- A slice of votes that does not lie in what belongs to a client. -/
def OffV (base top : Nat) (W : World) (v : Value) : Prop := ∀ c, CliAt W base c → (∀ k, c.foot k → k < top) → ApartC c v
/-- A slice that lies below. -/
def LowS (base : Nat) (v : Value) : Prop := ∀ a n cap, v = .slice (some a) n cap → a.block < base
theorem LowS.offV {base top : Nat} {W : World} {v : Value} (h : LowS base v) : OffV base top W v := fun c hc _ => off_low h c hc
theorem offV_top {b n : Nat} {W : World} {base top : Nat} {sv : Value} {xs : List Value} (hown : W.ownsRow b 43 36 sv n xs) (hb : top ≤ b) : OffV base top W sv := fun _ _ ht => apart_top hown hb ht
theorem low_own {W : World} {b base : Nat} {e : TypeId} {size n : Nat} {v : Value} {xs : List Value} (h : W.ownsRow b e size v n xs) (hb : W.heap.size ≤ base) : LowS base v := fun a m cap hv => by
  rcases h.2 with ⟨rfl, _⟩ | ⟨g, cap', cur, rfl, _, hh, _⟩
  · cases hv
  · cases hv
    exact Nat.lt_of_lt_of_le (Blk.lt (t := e) hh) hb
theorem has_new (w0 : World) (id : Int) (P : List Pers) (hlen : P.length ≤ 1000) (pv : Value) (w : World) (h0 : Only NoneOf w0 w) (hp : PerSl w pv P) :
    Calls Tryz.prog 17 #[.int .i64 id, setV pv] w fun e w' => ∃ C, e = .returned (.pointer (some ⟨C, 0, none⟩)) ∧ Has w0 w.heap.size C w'.heap.size ⟨id, P, false, ⟨#[]⟩, hd0, [], false⟩ w' ∧ Only NoneOf w w' :=
  (new_any id P hlen pv w hp).mono (fun e w' ⟨C, pw, h1, h2, h3⟩ => ⟨C, h1, ⟨_, rfl, rfl, h2, rfl, h3.size, Nat.le_refl _, h0.trans h3, h0.size, fun k hk => (h2.foot_in hk).2⟩, h3⟩)
theorem has_head (w0 : World) (ht : Tab w0) {base C top : Nat} {s : Vw} (hP : PersOk s.P) (hlen : s.P.length ≤ 1000) (hsm : SmallH s.head) (L : List Vt) (hok : VtsOk L) (hsv : SmallV L) (hL : L.length ≤ 1000) (hn : s.votes.length ≤ 50000) (sv : Value) (Q : List Hs) (hqok : HsOk Q) (hQ : Q.length ≤ 100000) (qv : Value) (w : World) (h : Has w0 base C top s w) (hs : VtSl w sv L) (hsa : OffV base top w sv) (hq : HaSl w qv Q) (hqa : Off base w qv) :
    Calls Tryz.prog 19 #[.pointer (some ⟨C, 0, none⟩), sv, qv] w fun e w' => ∃ o, BestL s.P L o ∧ e = .returned (.int .i64 (hdRes o (knownH s.head) Q)) ∧ Has w0 base C w'.heap.size { s with votes := takeV s.votes L, head := hdNext o (knownH s.head) Q s.head } w' ∧ Near base w w' := by
  obtain ⟨c, rfl, rfl, h3, h4, h5, h6, h7, h8, h9⟩ := h
  refine (head_any w0 ht c base h8 h4 hP hlen hsm L hok hsv hL hn sv Q hqok hQ qv w h7 h3 h5 hs (hsa c h3 h9) hq (hqa c h3)).mono ?_
  rintro e w' ⟨o, ho, he, vv, mv, hc, hst⟩
  exact ⟨o, ho, he, Has.of rfl h7 h8 h5 h3 hst hc rfl, hst.near h3⟩
theorem has_blames (w0 : World) (ht : Tab w0) {base C top : Nat} {s : Vw} (hP : PersOk s.P) (hlen : s.P.length ≤ 1000) (hn : s.votes.length ≤ 100000) (w : World) (h : Has w0 base C top s w) :
    Calls Tryz.prog 20 #[.pointer (some ⟨C, 0, none⟩)] w fun e w' => ∃ ov, e = .returned ov ∧ BlSl w' ov (blL s.P s.votes) ∧ Only NoneOf w w' := by
  obtain ⟨c, rfl, rfl, h3, h4, h5, h6, h7, h8, h9⟩ := h
  exact blames_any w0 ht c base hP hlen hn w h7 h3
theorem has_safe (w0 : World) (ht : Tab w0) {base C top : Nat} {s : Vw} (hP : PersOk s.P) (hlen : s.P.length ≤ 1000) (hn : s.votes.length ≤ 100000) (w : World) (h : Has w0 base C top s w) :
    Calls Tryz.prog 22 #[.pointer (some ⟨C, 0, none⟩)] w fun e w' => e = .returned (.bool (s.rc && (blL s.P s.votes).isEmpty)) ∧ Only NoneOf w w' := by
  obtain ⟨c, rfl, rfl, h3, h4, h5, h6, h7, h8, h9⟩ := h
  exact safe_any w0 ht c base hP hlen hn w h7 h3
end Go.Proofs.YtgalfohobgjelaaGreatDoor
namespace Go.Proofs.YtgalfohobgjelaaGreatDoor
/-- The check's world. -/
def wd3 : Wd := ⟨3, [], 0⟩
theorem wd3_ok : wd3.Ok := ⟨by decide, by decide⟩
theorem setW3 : setW wd3 = setB 4 ++ [bidder 60, bidder 61] := rfl
theorem offs_setW3 : offs (setW wd3) = [offAt 1, offAt 2, offAt 3, offAt 4] := by
  rw [setW3]
  simp [offs, offGo, setB, clerk, offAt, bidder, List.range_succ]
theorem voteW0 (h : Hd) (k : Nat) (hk : bitW 0 k = false) : voteW 0 h k = vAt h k := by
  unfold voteW vAt
  rw [hk]
  simp
theorem bit00 (k : Nat) : bitW 0 k = false := by unfold bitW; simp
theorem votes14 (h : Hd) : votesW wd3 h 14 0 = [vAt h 1, vAt h 2, vAt h 3] := by
  have h4 : wd3.n = 4 := rfl
  unfold votesW
  rw [h4]
  simp only [votesN]
  rw [show bitW 14 1 = true from by decide, show bitW 14 2 = true from by decide, show bitW 14 3 = true from by decide, show bitW 14 4 = false from by decide]
  simp [voteW0 _ _ (bit00 _)]
theorem votes28 (h : Hd) : votesW wd3 h 28 0 = [vAt h 2, vAt h 3, vAt h 4] := by
  have h4 : wd3.n = 4 := rfl
  unfold votesW
  rw [h4]
  simp only [votesN]
  rw [show bitW 28 1 = false from by decide, show bitW 28 2 = true from by decide, show bitW 28 3 = true from by decide, show bitW 28 4 = true from by decide]
  simp [voteW0 _ _ (bit00 _)]
theorem cert14 (h : Hd) : certB (setW wd3) h [vAt h 1, vAt h 2, vAt h 3] = true := by
  unfold certB votesFor
  rw [offs_setW3]
  have hd : ∀ j, eqHd (vAt h j).head h = true := fun j => eqHd_true.2 rfl
  simp [hd, cnts_at, need]
theorem cert28 (h : Hd) : certB (setW wd3) h [vAt h 2, vAt h 3, vAt h 4] = true := by
  unfold certB votesFor
  rw [offs_setW3]
  have hd : ∀ j, eqHd (vAt h j).head h = true := fun j => eqHd_true.2 rfl
  simp [hd, cnts_at, need]
theorem best_nil (P : List Pers) {o : Option Hd} (h : BestL P [] o) : o = none := by
  unfold BestL at h
  cases o with
  | none => rfl
  | some b => exact absurd h.1 (by simp)
theorem best_one {P : List Pers} {L : List Vt} {h : Hd} (hL : ∀ v ∈ L, v.head = h) (hne : L ≠ []) (hc : certB P h L = true) {o : Option Hd} (ho : BestL P L o) : o = some h := by
  have hd : ∀ x, x ∈ L.map (·.head) → x = h := fun x hx => by
    obtain ⟨v, hv, rfl⟩ := List.mem_map.1 hx
    exact hL v hv
  have hm : h ∈ L.map (·.head) := by
    cases L with
    | nil => exact absurd rfl hne
    | cons v l => exact List.mem_map.2 ⟨v, by simp, hL v (by simp)⟩
  cases o with
  | none =>
    have h9 : certB P h L = false := ho h hm
    rw [hc] at h9; cases h9
  | some b =>
    rw [hd b ho.1]
theorem best14 (h : Hd) {o : Option Hd} (ho : BestL (setW wd3) (votesW wd3 h 14 0) o) : o = some h := by
  rw [votes14] at ho
  exact best_one (fun v hv => by simp at hv; rcases hv with rfl | rfl | rfl <;> rfl) (by simp) (cert14 h) ho
theorem best28 (h : Hd) {o : Option Hd} (ho : BestL (setW wd3) (votesW wd3 h 28 0) o) : o = some h := by
  rw [votes28] at ho
  exact best_one (fun v hv => by simp at hv; rcases hv with rfl | rfl | rfl <;> rfl) (by simp) (cert28 h) ho
end Go.Proofs.YtgalfohobgjelaaGreatDoor
namespace Go.Proofs.YtgalfohobgjelaaGreatDoor
theorem ckL_zero (n : Nat) (r : Hs) : ckL 0 n (rootL []) r [] = true := by
  unfold ckL
  simp
theorem ckL_right (l : List (List UInt8)) (m : Nat) (hl : l.length ≤ 1000000) (h1 : 1 ≤ m) (h2 : m < l.length) : ckL m l.length (rootL (l.take m)) (rootL l) (growL l m) = true := by
  obtain ⟨g1, g2⟩ := grow_right l.length l m true (rootL (l.take m)) (Nat.le_refl _) hl h1 (by omega) (fun _ => rfl)
  have hg : growL l m = (growF l.length l m true).reverse := by unfold growL; rw [if_neg (by omega)]
  unfold ckL
  rw [if_neg (by omega)]
  unfold ckB
  rw [hg, List.length_reverse, if_pos g1, List.reverse_reverse, g2]
  simp
/-- The same from no leaves on. -/
theorem ckL_grow (l : List (List UInt8)) (m : Nat) (hl : l.length ≤ 1000000) (h2 : m < l.length) : ckL m l.length (rootL (l.take m)) (rootL l) (growL l m) = true := by
  by_cases h0 : m = 0
  · subst h0
    have hg : growL l 0 = [] := by unfold growL; rw [if_pos (.inl rfl)]
    rw [hg, List.take_zero]
    exact ckL_zero _ _
  · exact ckL_right l m hl (by omega) h2
end Go.Proofs.YtgalfohobgjelaaGreatDoor
namespace Go.Proofs.YtgalfohobgjelaaGreatDoor
open Go.RowKit Go.Shelf
theorem setW_mem {d : Wd} {p : Pers} (h : p ∈ setW d) : p ∈ setB d.n ∨ p = bidder 60 ∨ p = bidder 61 := by
  unfold setW at h
  rcases List.mem_append.1 h with h | h
  · exact .inl h
  · simp only [List.mem_cons, List.not_mem_nil, or_false] at h
    exact .inr h
theorem wdn_le (d : Wd) : d.n ≤ 7 := by unfold Wd.n; omega
theorem setW_ok (d : Wd) : PersOk (setW d) := fun p hp => by
  rcases setW_mem hp with h | rfl | rfl
  · exact setB_ok d.n (by have := wdn_le d; omega) p h
  · exact ⟨⟨by decide, by decide⟩, ⟨by decide, by decide⟩, gp_in _⟩
  · exact ⟨⟨by decide, by decide⟩, ⟨by decide, by decide⟩, gp_in _⟩
theorem setW_len (d : Wd) : (setW d).length ≤ 1000 := by
  unfold setW
  rw [List.length_append, setB_len]
  have := wdn_le d
  simp only [List.length_cons, List.length_nil]
  omega
theorem votesN_head (yes odd : Nat) (h : Hd) : ∀ n, ∀ v ∈ votesN yes odd h n, v.head = h
  | 0, v, hv => by simp [votesN] at hv
  | n + 1, v, hv => by
    simp only [votesN, List.mem_append] at hv
    rcases hv with hv | hv
    · exact votesN_head yes odd h n v hv
    · split at hv
      · simp only [List.mem_singleton] at hv
        subst hv
        rfl
      · simp at hv
theorem votesW_head {d : Wd} {h : Hd} {yes odd : Nat} {v : Vt} (hv : v ∈ votesW d h yes odd) : v.head = h := votesN_head _ _ _ _ v hv
theorem votesW_ok (d : Wd) {h : Hd} (ok : h.Ok) (yes odd : Nat) : VtsOk (votesW d h yes odd) := votesN_ok yes odd h ok d.n (by have := wdn_le d; omega)
theorem votesW_small (d : Wd) {h : Hd} (hs : SmallH h) (yes odd : Nat) : SmallV (votesW d h yes odd) := fun v hv => by rw [votesW_head hv]; exact hs
theorem hdOf_small {L : List ByteArray} (h : L.length ≤ 1000) : SmallH (hdOf L) := ⟨L.length, rfl, h⟩
theorem hd0_small : SmallH hd0 := ⟨0, rfl, by omega⟩
/-- Votes for one head certify it, or nothing. -/
theorem best_same {P : List Pers} {L : List Vt} {h : Hd} (hL : ∀ v ∈ L, v.head = h) {o : Option Hd} (ho : BestL P L o) : (o = none ∧ (L = [] ∨ certB P h L = false)) ∨ (o = some h ∧ certB P h L = true) := by
  have hd : ∀ x, x ∈ L.map (·.head) → x = h := fun x hx => by
    obtain ⟨v, hv, rfl⟩ := List.mem_map.1 hx
    exact hL v hv
  cases o with
  | none =>
    refine .inl ⟨rfl, ?_⟩
    cases L with
    | nil => exact .inl rfl
    | cons v l => exact .inr (ho h (List.mem_map.2 ⟨v, List.mem_cons_self .., hL v (List.mem_cons_self ..)⟩))
  | some b =>
    have e : b = h := hd b ho.1
    subst e
    exact .inr ⟨rfl, ho.2.1⟩
theorem hdNext_small {P : List Pers} {L : List Vt} {o : Option Hd} {old h : Hd} {Q : List Hs} (hs : SmallV L) (hh : SmallH h) (ho : BestL P L o) : SmallH (hdNext o old Q h) := by
  unfold hdNext
  split
  · exact best_small hs ho
  · exact hh
def wdLoad (v : Value) : Sem Value := Instr.loadAt 24 v
theorem wdLoad_eq (v : Value) : Instr.loadAt 24 v = wdLoad v := rfl
theorem wd_load {W : World} {g : Nat} {d : Wd} {kA : Option Addr} {kc : Nat} (h : Blk W g tWd (wdC d kA kc)) : (wdLoad (.pointer (some ⟨g, 0, none⟩))).run Tryz.prog W = .ok (.agg (wdC d kA kc)) W :=
  run_loadAt_mid W g 0 24 [.int .u8 (d.off : Int), .slice kA d.kinds.length kc, .int .u8 (d.fork : Int)] _ (blk_range h) Tryz.underlying24 rfl (by kernel_rfl)
/-- Three heads in three blocks. -/
theorem three_heads (W : World) {a b c : Hd} (la : a.root.length = 32) (lb : b.root.length = 32) (lc : c.root.length = 32) (N M K : Nat) (hN : N = W.heap.size) (hM : M = N + 1) (hK : K = M + 1) :
    ∃ W3, W3 = ((W.alloc (.cells hd0C tHd)).alloc (.cells hd0C tHd)).alloc (.cells hd0C tHd) ∧
      (hdStore (.pointer (some ⟨N, 0, none⟩)) (.agg (hdC a).toArray)).run Tryz.prog W3 = .ok () (W3.setCells N 0 (hdC a)) ∧
      (hdStore (.pointer (some ⟨M, 0, none⟩)) (.agg (hdC b).toArray)).run Tryz.prog (W3.setCells N 0 (hdC a)) = .ok () ((W3.setCells N 0 (hdC a)).setCells M 0 (hdC b)) ∧
      (hdStore (.pointer (some ⟨K, 0, none⟩)) (.agg (hdC c).toArray)).run Tryz.prog ((W3.setCells N 0 (hdC a)).setCells M 0 (hdC b)) = .ok () (((W3.setCells N 0 (hdC a)).setCells M 0 (hdC b)).setCells K 0 (hdC c)) ∧
      HdAt (((W3.setCells N 0 (hdC a)).setCells M 0 (hdC b)).setCells K 0 (hdC c)) N a ∧
      HdAt (((W3.setCells N 0 (hdC a)).setCells M 0 (hdC b)).setCells K 0 (hdC c)) M b ∧
      HdAt (((W3.setCells N 0 (hdC a)).setCells M 0 (hdC b)).setCells K 0 (hdC c)) K c ∧
      Only NoneOf W (((W3.setCells N 0 (hdC a)).setCells M 0 (hdC b)).setCells K 0 (hdC c)) := by
  obtain ⟨W3, e3⟩ : ∃ W3, W3 = ((W.alloc (.cells hd0C tHd)).alloc (.cells hd0C tHd)).alloc (.cells hd0C tHd) := ⟨_, rfl⟩
  have b1 : Blk W3 N tHd hd0C := by rw [e3, hN]; exact ((Blk.new W _ _).alloc _).alloc _
  have b2 : Blk W3 M tHd hd0C := by
    have h := (Blk.new (W.alloc (.cells hd0C tHd)) tHd hd0C).alloc (.cells hd0C tHd)
    rw [World.size_alloc] at h
    rw [e3, hM, hN]; exact h
  have b3 : Blk W3 K tHd hd0C := by
    have h := Blk.new ((W.alloc (.cells hd0C tHd)).alloc (.cells hd0C tHd)) tHd hd0C
    rw [World.size_alloc, World.size_alloc] at h
    rw [e3, hK, hM, hN]; exact h
  have n1 : M ≠ N := by omega
  have n2 : K ≠ N := by omega
  have n3 : K ≠ M := by omega
  have b2' : Blk (W3.setCells N 0 (hdC a)) M tHd hd0C := Blk.farCells n1 _ 0 b2
  have b3' : Blk ((W3.setCells N 0 (hdC a)).setCells M 0 (hdC b)) K tHd hd0C := Blk.farCells n3 _ 0 (Blk.farCells n2 _ 0 b3)
  have f1 : HdAt (W3.setCells N 0 (hdC a)) N a := filled_whole b1 (by rw [hdC_len la]; rfl)
  have f2 : HdAt ((W3.setCells N 0 (hdC a)).setCells M 0 (hdC b)) M b := filled_whole b2' (by rw [hdC_len lb]; rfl)
  have f3 : HdAt (((W3.setCells N 0 (hdC a)).setCells M 0 (hdC b)).setCells K 0 (hdC c)) K c := filled_whole b3' (by rw [hdC_len lc]; rfl)
  refine ⟨W3, e3, hd_store b1 rfl la, hd_store b2' rfl lb, hd_store b3' rfl lc, Blk.farCells (Ne.symm n2) _ 0 (Blk.farCells (Ne.symm n1) _ 0 f1), Blk.farCells (Ne.symm n3) _ 0 f2, f3, ?_⟩
  rw [e3]
  exact only_setCells (only_setCells (only_setCells ((((Only.refl _ _).alloc _).alloc _).alloc _) N 0 (.inr (by omega)) _) M 0 (.inr (by omega)) _) K 0 (.inr (by omega)) _
end Go.Proofs.YtgalfohobgjelaaGreatDoor
namespace Go.Proofs.YtgalfohobgjelaaGreatDoor
theorem offGo_all : ∀ (l : List Pers) (seen : List Int), (∀ p ∈ l, p.role = 2 ∧ p.id ∉ seen) → l.Pairwise (fun p q => p.id ≠ q.id) → offGo seen l = l
  | [], _, _, _ => rfl
  | p :: l, seen, h, hp => by
    obtain ⟨h1, h2⟩ := List.pairwise_cons.1 hp
    have h0 := h p (by simp)
    unfold offGo
    rw [if_pos ⟨h0.2, h0.1⟩, offGo_all l _ (fun q hq => ⟨(h q (by simp [hq])).1, by
      rw [List.mem_cons, not_or]
      exact ⟨fun e => h1 q hq e.symm, (h q (by simp [hq])).2⟩⟩) h2]
/-- The officers of a setup without odd persons. -/
theorem offs_setB (m : Nat) (hm : m < 50) : offs (setB m) = (List.range m).map (fun j => offAt (j + 1)) := by
  unfold offs setB
  rw [offGo, if_neg (fun h => by have h2 : (1 : Int) = 2 := h.2; omega)]
  refine offGo_all _ _ (fun p hp => ?_) ?_
  · obtain ⟨j, hj, rfl⟩ := List.mem_map.1 hp
    have := List.mem_range.1 hj
    refine ⟨rfl, ?_⟩
    rw [List.mem_cons, not_or]
    exact ⟨fun e => by have h2 : ((j + 1 : Nat) : Int) = 50 := e; omega, List.not_mem_nil⟩
  · rw [List.pairwise_map]
    exact List.pairwise_lt_range.imp (fun {a b} h e => by have h2 : ((a + 1 : Nat) : Int) = ((b + 1 : Nat) : Int) := e; omega)
theorem certB_congr {P : List Pers} {L M : List Vt} (h : ∀ p ∈ offs P, ∀ v, cnts p v = true → (v ∈ L ↔ v ∈ M)) (x : Hd) : certB P x L = certB P x M := by
  unfold certB
  rw [votesFor_eq, votesFor_eq]
  have : (offs P).countP (fun p => hasV L p x) = (offs P).countP (fun p => hasV M p x) := by
    apply List.countP_congr
    intro p hp
    rw [hasV_iff, hasV_iff]
    constructor
    · rintro ⟨v, hv, e, c⟩; exact ⟨v, (h p hp v c).1 hv, e, c⟩
    · rintro ⟨v, hv, e, c⟩; exact ⟨v, (h p hp v c).2 hv, e, c⟩
  rw [this]
end Go.Proofs.YtgalfohobgjelaaGreatDoor
namespace Go.Proofs.YtgalfohobgjelaaGreatDoor
theorem offGo_skip : ∀ (l m : List Pers) (seen : List Int), (∀ p ∈ m, p.role ≠ 2) → offGo seen (l ++ m) = offGo seen l
  | [], [], _, _ => rfl
  | [], p :: m, seen, h => by
    rw [List.nil_append]
    unfold offGo
    rw [if_neg (fun h2 => h p (List.mem_cons_self ..) h2.2)]
    have := offGo_skip [] m (p.id :: seen) (fun q hq => h q (List.mem_cons_of_mem _ hq))
    rw [List.nil_append] at this
    rw [this]
    rfl
  | p :: l, m, seen, h => by
    rw [List.cons_append]
    unfold offGo
    rw [offGo_skip l m _ h]
theorem offs_setW (d : Wd) : offs (setW d) = (List.range d.n).map (fun j => offAt (j + 1)) := by
  rw [← offs_setB d.n (by have := wdn_le d; omega)]
  unfold offs setW
  exact offGo_skip _ _ _ (fun p hp => by
    simp only [List.mem_cons, List.not_mem_nil, or_false] at hp
    rcases hp with rfl | rfl <;> (intro e; cases e))
theorem offs_setW_len (d : Wd) : (offs (setW d)).length = d.n := by rw [offs_setW]; simp
theorem offsW_at {d : Wd} {p : Pers} (hp : p ∈ offs (setW d)) : ∃ k, 1 ≤ k ∧ k ≤ d.n ∧ p = offAt k := by
  rw [offs_setW] at hp
  obtain ⟨j, hj, rfl⟩ := List.mem_map.1 hp
  have := List.mem_range.1 hj
  exact ⟨j + 1, by omega, by omega, rfl⟩
/-- Who votes. -/
theorem votesN_mem (yes : Nat) (h : Hd) : ∀ (n : Nat) (v : Vt), v ∈ votesN yes 0 h n ↔ ∃ k, 1 ≤ k ∧ k ≤ n ∧ bitW yes k = true ∧ v = vAt h k
  | 0, v => by
    constructor
    · intro hv; simp [votesN] at hv
    · rintro ⟨k, h1, h2, _⟩; omega
  | n + 1, v => by
    simp only [votesN, List.mem_append]
    rw [votesN_mem yes h n v]
    constructor
    · rintro (⟨k, h1, h2, h3, h4⟩ | hv)
      · exact ⟨k, h1, by omega, h3, h4⟩
      · split at hv
        · rename_i hb
          simp only [List.mem_singleton] at hv
          exact ⟨n + 1, by omega, Nat.le_refl _, hb, by rw [hv, voteW0 _ _ (bit00 _)]⟩
        · simp at hv
    · rintro ⟨k, h1, h2, h3, h4⟩
      by_cases e : k = n + 1
      · subst e
        refine .inr ?_
        rw [if_pos h3, h4, voteW0 _ _ (bit00 _)]
        exact List.mem_singleton.2 rfl
      · exact .inl ⟨k, h1, by omega, h3, h4⟩
theorem votesW_mem {d : Wd} {h : Hd} {yes : Nat} {v : Vt} : v ∈ votesW d h yes 0 ↔ ∃ k, 1 ≤ k ∧ k ≤ d.n ∧ bitW yes k = true ∧ v = vAt h k := votesN_mem _ _ _ _
theorem agT_sizes {a b : Hd} (h : a.size ≠ b.size) : agT a b = true := by
  unfold agT
  rw [agB_cases]
  simp [h]
theorem agT_roots {a b : Hd} (h : a.size = b.size) (hn : a ≠ b) : agT a b = false := by
  unfold agT
  rw [agB_cases]
  have : eqHd a b = false := by
    cases he : eqHd a b with
    | false => rfl
    | true => exact absurd (eqHd_true.1 he) hn
  simp [h, this]
theorem agT_self (a : Hd) : agT a a = true := by
  unfold agT
  rw [agB_cases]
  simp [eqHd_true.2 rfl]
theorem agT_true {a b : Hd} (h : a.size = b.size → a = b) : agT a b = true := by
  by_cases e : a.size = b.size
  · rw [h e]; exact agT_self b
  · exact agT_sizes e
theorem agT_false {a b : Hd} (h : agT a b = false) : a.size = b.size ∧ a ≠ b := by
  constructor
  · by_cases e : a.size = b.size
    · exact e
    · rw [agT_sizes e] at h; cases h
  · rintro rfl
    rw [agT_self] at h; cases h
theorem agT_symm (a b : Hd) : agT a b = agT b a := by
  cases h : agT a b with
  | true =>
    symm
    refine agT_true (fun e => ?_)
    by_cases hn : b = a
    · exact hn
    · rw [agT_roots e.symm (Ne.symm hn)] at h; cases h
  | false =>
    obtain ⟨h1, h2⟩ := agT_false h
    rw [agT_roots h1.symm (Ne.symm h2)]
/-- Two heads that are both certified. -/
theorem blL_two {d : Wd} {L : List Vt} {a b : Hd} (h : agT a b = false) (ha : certB (setW d) a L = true) (hb : certB (setW d) b L = true) : d.n < 3 * (blL (setW d) L).length := by
  have h1 := overlap agT_symm agT_self h ha hb
  rw [offs_setW_len] at h1
  have h2 := need_two d.n
  unfold blL
  omega
theorem certB_mono {P : List Pers} {L M : List Vt} (h : ∀ v ∈ L, v ∈ M) {x : Hd} (hc : certB P x L = true) : certB P x M = true := by
  unfold certB at hc ⊢
  have h1 := of_decide_eq_true hc
  refine decide_eq_true (Nat.le_trans h1 ?_)
  rw [votesFor_eq, votesFor_eq]
  apply List.countP_mono_left
  intro p _ hp
  obtain ⟨v, hv, e, c⟩ := hasV_iff.1 hp
  exact hasV_iff.2 ⟨v, h v hv, e, c⟩
theorem takeV_mem (M L : List Vt) (v : Vt) : v ∈ takeV M L ↔ v ∈ M ∨ v ∈ L := by
  rw [takeV_fold]
  induction L generalizing M with
  | nil => simp
  | cons x l ih =>
    rw [List.foldl_cons, ih]
    unfold take1
    by_cases hb : hasB M x = true
    · rw [if_pos hb]
      have := hasB_true.1 hb
      constructor
      · rintro (h | h)
        · exact .inl h
        · exact .inr (List.mem_cons_of_mem _ h)
      · rintro (h | h)
        · exact .inl h
        · rcases List.mem_cons.1 h with rfl | h
          · exact .inl this
          · exact .inr h
    · rw [if_neg hb]
      simp only [List.mem_append, List.mem_cons, List.not_mem_nil, or_false]
      constructor
      · rintro ((h | h) | h)
        · exact .inl h
        · exact .inr (.inl h)
        · exact .inr (.inr h)
      · rintro (h | h | h)
        · exact .inl (.inl h)
        · exact .inl (.inr h)
        · exact .inr h
/-- Who is blamed, whatever the order of the votes. -/
theorem blL_who {P : List Pers} {L M : List Vt} (h : ∀ v, v ∈ L ↔ v ∈ M) : (blL P L).map (·.who) = (blL P M).map (·.who) := by
  unfold blL clashL clashO
  have key : ∀ p, (blmOf agT L p).map (·.who) = (blmOf agT M p).map (·.who) := by
    have one : ∀ {L M : List Vt}, (∀ v, v ∈ L ↔ v ∈ M) → ∀ p, (blmOf agT L p).isSome = true → (blmOf agT L p).map (·.who) = (blmOf agT M p).map (·.who) := by
      intro L M h p hs
      obtain ⟨b, hb⟩ := Option.isSome_iff_exists.1 hs
      obtain ⟨h1, h2, h3, h4, h5, h6⟩ := blmOf_who hb
      have h7 := firstP_some agT_symm (List.mem_filter.2 ⟨(h b.a).1 h2, h4⟩) (List.mem_filter.2 ⟨(h b.b).1 h3, h5⟩) h6 (agT_self _) (agT_self _)
      have h8 : ∃ c, blmOf agT M p = some c := by
        unfold blmOf
        cases hf : firstP agT (M.filter (cnts p)) with
        | none => exact (h7 hf).elim
        | some x => exact ⟨_, rfl⟩
      obtain ⟨c, hc⟩ := h8
      rw [hb, hc, Option.map_some, Option.map_some, h1, (blmOf_who hc).1]
    intro p
    cases hL : blmOf agT L p with
    | some b =>
      have := one h p (by rw [hL]; rfl)
      rw [hL] at this
      exact this
    | none =>
      cases hM : blmOf agT M p with
      | none => rfl
      | some c =>
        have := one (fun v => (h v).symm) p (by rw [hM]; rfl)
        rw [hL, hM] at this
        exact this.symm
  induction offs P with
  | nil => rfl
  | cons p l ih =>
    have hk := key p
    rw [List.filterMap_cons, List.filterMap_cons]
    cases hL : blmOf agT L p with
    | none =>
      cases hM : blmOf agT M p with
      | none => exact ih
      | some c => rw [hL, hM] at hk; cases hk
    | some b =>
      cases hM : blmOf agT M p with
      | none => rw [hL, hM] at hk; cases hk
      | some c =>
        rw [hL, hM] at hk
        simp only [Option.map_some, Option.some.injEq] at hk
        simp only [List.map_cons, ih, hk]
end Go.Proofs.YtgalfohobgjelaaGreatDoor
namespace Go.Proofs.YtgalfohobgjelaaGreatDoor
open Go.RowKit Go.Shelf
theorem evAt_ok (d : Wd) (second : Bool) (k : Nat) (hk : k ≤ 2000) (last : Hs) (hl : last.length = 32) (x : Nat) : (evAt d second k last x).Ok := signE_ok (evRaw_ok d second k hk last hl x) _
theorem evAt_short (d : Wd) (second : Bool) (k : Nat) (last : Hs) (x : Nat) : (evAt d second k last x).name.size ≤ 100 ∧ (evAt d second k last x).text.size ≤ 100 := signE_short _ _ (evRaw_short d second k last x)
/-- Each event of a list is one that was made of a number. -/
theorem evsGo_get (d : Wd) (second : Bool) : ∀ (l : List UInt8) (k : Nat) (last : Hs), last.length = 32 → ∀ (i : Nat) (e : Ev), (evsGo d second k last l)[i]? = some e → ∃ (prev : Hs) (x : UInt8), prev.length = 32 ∧ l[i]? = some x ∧ e = evAt d second (k + i) prev x.toNat
  | [], _, _, _, i, e, h => by simp [evsGo] at h
  | x :: l, k, last, hl, 0, e, h => by
    simp only [evsGo, List.getElem?_cons_zero, Option.some.injEq] at h
    exact ⟨last, x, hl, rfl, h.symm⟩
  | x :: l, k, last, hl, i + 1, e, h => by
    simp only [evsGo, List.getElem?_cons_succ] at h
    obtain ⟨prev, y, h1, h2, h3⟩ := evsGo_get d second l (k + 1) _ (shaL_len _) i e h
    exact ⟨prev, y, h1, by rw [List.getElem?_cons_succ]; exact h2, by rw [h3, show k + (i + 1) = k + 1 + i by omega]⟩
theorem evsW_len (d : Wd) (second : Bool) : (evsW d second).length = min 12 d.kinds.length := by
  unfold evsW
  rw [evsGo_len, List.length_take]
theorem evsW_le (d : Wd) (second : Bool) : (evsW d second).length ≤ 12 := by rw [evsW_len]; omega
theorem evsW_get {d : Wd} {second : Bool} {i : Nat} {e : Ev} (h : (evsW d second)[i]? = some e) : ∃ (prev : Hs) (x : UInt8), prev.length = 32 ∧ d.kinds[i]? = some x ∧ i < 12 ∧ e = evAt d second i prev x.toNat := by
  unfold evsW at h
  obtain ⟨prev, x, h1, h2, h3⟩ := evsGo_get d second _ 0 zeroH rfl i e h
  have hi : i < 12 := by
    have := (List.getElem?_eq_some_iff.1 h2).1
    rw [List.length_take] at this
    omega
  refine ⟨prev, x, h1, ?_, hi, by rw [h3, Nat.zero_add]⟩
  rw [List.getElem?_take, if_pos hi] at h2
  exact h2
theorem evsW_ok {d : Wd} {second : Bool} {e : Ev} (h : e ∈ evsW d second) : e.Ok ∧ e.name.size ≤ 100 ∧ e.text.size ≤ 100 := by
  obtain ⟨i, hi⟩ := List.mem_iff_getElem?.1 h
  obtain ⟨prev, x, h1, _, h12, rfl⟩ := evsW_get hi
  exact ⟨evAt_ok d second i (by omega) prev h1 _, evAt_short d second i prev _⟩
/-- The leaves of the first list, or of the second one. -/
noncomputable def lvW (d : Wd) (second : Bool) : List ByteArray := leavesE (evsW d second)
theorem lvW_len (d : Wd) (second : Bool) : (lvW d second).length = (evsW d second).length := leavesE_len _
theorem lvW_le (d : Wd) (second : Bool) : (lvW d second).length ≤ 12 := by rw [lvW_len]; exact evsW_le d second
theorem lvW_same (d : Wd) : (lvW d true).length = (lvW d false).length := by rw [lvW_len, lvW_len, evsW_len, evsW_len]
theorem lvW_short (d : Wd) (second : Bool) : ShortTs (lvW d second) := fun s hs => by
  obtain ⟨e, he, rfl⟩ := List.mem_map.1 hs
  have h := evsW_ok he
  have h2 := evCode_short h.1 (by omega) (by omega)
  show (evCode e).toArray.size ≤ _
  rw [List.size_toArray]
  exact h2
theorem short_take {L : List ByteArray} (h : ShortTs L) (n : Nat) : ShortTs (L.take n) := fun s hs => h s (List.mem_of_mem_take hs)
/-- The first texts of a slice. -/
theorem StSl.first {W : World} {A : Option Addr} {n cap k : Nat} {L : List ByteArray} (h : StSl W (.slice A n cap) L) (hk : k ≤ L.length) : StSl W (.slice A k cap) (L.take k) := by
  obtain ⟨A', cap', e, h1, h2, h3⟩ := h
  cases e
  refine ⟨A, cap, by rw [List.length_take, Nat.min_eq_left hk], by rw [List.length_take]; omega, h2, fun i s hs => h3 i s ?_⟩
  rw [List.getElem?_take] at hs
  split at hs
  · exact hs
  · cases hs
theorem knownH_of {h : Hd} {L : List ByteArray} {n : Nat} (hk : knownH h = hdOf (L.take n)) (hn : n ≤ L.length) : (knownH h).size = (n : Int) ∧ (knownH h).root = rootL ((txs L).take n) := by
  rw [hk]
  refine ⟨?_, ?_⟩
  · show ((L.take n).length : Int) = n
    rw [List.length_take, Nat.min_eq_left hn]
  · show rootL (txs (L.take n)) = _
    rw [txs_take]
theorem knownH_new (L : List ByteArray) (n : Nat) (hn : n ≤ L.length) : knownH (hdOf (L.take n)) = hdOf (L.take n) := by
  unfold knownH
  by_cases h : n = 0
  · subst h
    rw [if_pos (show (hdOf (L.take 0)).size = 0 from rfl)]
    rfl
  · rw [if_neg]
    intro e
    have : ((L.take n).length : Int) = 0 := e
    rw [List.length_take, Nat.min_eq_left hn] at this
    omega
theorem known_hd0' (L : List ByteArray) : knownH hd0 = hdOf (L.take 0) := by
  unfold knownH
  rw [if_pos (show hd0.size = 0 from rfl)]
  rfl
/-- Growing heads of one list. -/
theorem grow_res (L : List ByteArray) (hL : L.length ≤ 1000) {n m : Nat} (hn : n ≤ L.length) (hm : m ≤ L.length) {h : Hd} (hk : knownH h = hdOf (L.take m)) :
    hdRes (some (hdOf (L.take n))) (knownH h) (growL (txs (L.take n)) (min m n)) = (if n < m then 32 else 0) := by
  obtain ⟨k1, k2⟩ := knownH_of hk hm
  have s1 : (hdOf (L.take n)).size = (n : Int) := by
    show ((L.take n).length : Int) = n
    rw [List.length_take, Nat.min_eq_left hn]
  unfold hdRes
  simp only
  rw [s1, k1]
  by_cases h1 : n < m
  · rw [if_pos (by omega), if_pos h1]
  · rw [if_neg (by omega), if_neg h1]
    by_cases h2 : n = m
    · subst h2
      rw [if_pos rfl, if_pos]
      rw [k2]
      show rootL (txs (L.take n)) = _
      rw [txs_take]
    · rw [if_neg (by omega), if_pos]
      rw [k2, Nat.min_eq_left (by omega)]
      have h9 := ckL_grow (txs (L.take n)) m (by rw [txs_len, List.length_take]; omega) (by rw [txs_len, List.length_take]; omega)
      rw [txs_len, List.length_take, Nat.min_eq_left hn] at h9
      have e1 : (txs (L.take n)).take m = (txs L).take m := by rw [txs_take, List.take_take, Nat.min_eq_left (by omega)]
      rw [e1] at h9
      rw [Int.toNat_natCast, Int.toNat_natCast]
      exact h9
theorem grow_known (L : List ByteArray) (hL : L.length ≤ 1000) {n m : Nat} (hn : n ≤ L.length) (hm : m ≤ L.length) {h : Hd} (hk : knownH h = hdOf (L.take m)) :
    knownH (hdNext (some (hdOf (L.take n))) (knownH h) (growL (txs (L.take n)) (min m n)) h) = hdOf (L.take (max m n)) := by
  unfold hdNext
  rw [grow_res L hL hn hm hk]
  by_cases h1 : n < m
  · rw [if_pos h1, if_neg (by decide), hk, Nat.max_eq_left (by omega)]
  · rw [if_neg h1, if_pos rfl, Nat.max_eq_right (by omega)]
    exact knownH_new L n hn
end Go.Proofs.YtgalfohobgjelaaGreatDoor
