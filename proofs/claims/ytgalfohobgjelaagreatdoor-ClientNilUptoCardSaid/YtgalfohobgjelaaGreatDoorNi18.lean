/- What is proved here: several parts. a client in memory: its cells, what belongs to it, how it is told apart from other things. Conditions: roots have 32 bytes. · a region that draws its order and whose calls leave a class of worlds: one walk, in the order of the text, the class told as a family of worlds; no function of the program. No conditions. · a vote is noted by the client: whether it is fresh, and what the client has seen then. Conditions: the vote's numbers are ints, its root has 32 bytes. · several parts. the setup that the laws on quorums use, without odd persons. Condition: the number is an int. · plain facts of the quorum laws' check: signed votes count, three of four officers certify. No conditions. · the check of the quorum laws answers true. Condition: the table of powers of ten reads as its initialiser lays it. -/
import Derived.Test.YtgalfohobgjelaaGreatDoorNi05
import Derived.Test.YtgalfohobgjelaaGreatDoorNi08
import Derived.Test.YtgalfohobgjelaaGreatDoorNi09
import Derived.Test.YtgalfohobgjelaaGreatDoorNi10
import Derived.Test.YtgalfohobgjelaaGreatDoorNi12
import Derived.Test.YtgalfohobgjelaaGreatDoorNi14
import Derived.Test.YtgalfohobgjelaaGreatDoorNi15
import Derived.Test.YtgalfohobgjelaaGreatDoorNi17
import Derived.Test.YtgalfohobgjelaaGreatDoorRows
import Derived.BigQuiet
import Derived.Deep.DeepCutAuto
namespace Go.Proofs.YtgalfohobgjelaaGreatDoor
open Go.RowKit Go.Shelf
open Go.Maps (Keyed)
abbrev tCli : TypeId := 100
/-- A client: where it lies, and what it holds. -/
structure Cli where
  C : Nat
  id : Int
  pv : Value
  P : List Pers
  sent : Bool
  text : ByteArray
  head : Hd
  vv : Value
  votes : List Vt
  mv : Value
  seen : List Vt
  rc : Bool
def cliA (c : Cli) : List Value := [.int .i64 c.id, c.pv, .int .i64 0, .slice none 0 0, .slice none 0 0, .int .i64 0, .int .i64 0, .bool c.sent, .string c.text]
def cliC (c : Cli) : List Value := cliA c ++ (hdC c.head ++ [c.vv, c.mv, .bool c.rc])
theorem cliC_len {c : Cli} (hl : c.head.root.length = 32) : (cliC c).length = 45 := by simp [cliC, cliA, hdC_len hl]
def mapBlk : Value → Option Nat
  | .map (some b) => some b
  | _ => none
/-- The votes that the client has seen. -/
def SeenAt (w : World) (base : Nat) (mv : Value) (M : List Vt) : Prop := (mv = .map none ∧ M = []) ∨ ∃ b, mv = .map (some b) ∧ base ≤ b ∧ MapV w Tryz.prog tVt b M.length (seenV M)
/-- The client lies there. -/
structure CliAt (w : World) (base : Nat) (c : Cli) : Prop where
  blk : Blk w c.C tCli (cliC c).toArray
  lo : base ≤ c.C
  hok : c.head.Ok
  pers : PerOwn w base c.pv c.P.length c.P
  votes : VtOwn w base c.vv c.votes.length c.votes
  ok : VtsOk c.votes
  seen : SeenAt w base c.mv c.seen
  sok : VtsOk c.seen
/-- What belongs to the client. -/
def Cli.foot (c : Cli) (k : Nat) : Prop := k = c.C ∨ c.pv.ownBlock = some k ∨ c.vv.ownBlock = some k ∨ mapBlk c.mv = some k
theorem SeenAt.only {S : Nat → Prop} {w w' : World} {base : Nat} {mv : Value} {M : List Vt} (h : SeenAt w base mv M) (ho : Only S w w') (hS : ∀ k, mapBlk mv = some k → ¬ S k) : SeenAt w' base mv M := by
  rcases h with h | ⟨b, rfl, hb, hm⟩
  · exact .inl h
  · exact .inr ⟨b, rfl, hb, hm.only ho (hS b rfl)⟩
theorem CliAt.keep {S : Nat → Prop} {w w' : World} {base : Nat} {c : Cli} (h : CliAt w base c) (ho : Only S w w') (hS : ∀ k, c.foot k → ¬ S k) : CliAt w' base c :=
  ⟨h.blk.only ho (hS _ (.inl rfl)), h.lo, h.hok, own_only h.pers ho (fun k hk => hS k (.inr (.inl hk))), own_only h.votes ho (fun k hk => hS k (.inr (.inr (.inl hk)))), h.ok, h.seen.only ho (fun k hk => hS k (.inr (.inr (.inr hk)))), h.sok⟩
theorem CliAt.nn {w w' : World} {base : Nat} {c : Cli} (h : CliAt w base c) (ho : Only NoneOf w w') : CliAt w' base c := h.keep ho (fun _ _ e => e)
theorem SeenAt.blk {w : World} {base : Nat} {mv : Value} {M : List Vt} (h : SeenAt w base mv M) {k : Nat} (hk : mapBlk mv = some k) : base ≤ k ∧ k < w.heap.size ∧ MapV w Tryz.prog tVt k M.length (seenV M) := by
  rcases h with ⟨rfl, _⟩ | ⟨b, rfl, hb, hm⟩
  · simp [mapBlk] at hk
  · have : b = k := by simpa [mapBlk] using hk
    subst this
    exact ⟨hb, hm.lt, hm⟩
theorem CliAt.foot_in {w : World} {base : Nat} {c : Cli} (h : CliAt w base c) {k : Nat} (hk : c.foot k) : base ≤ k ∧ k < w.heap.size := by
  rcases hk with rfl | hk | hk | hk
  · exact ⟨h.lo, Blk.lt h.blk⟩
  · exact own_ge h.pers hk
  · exact own_ge h.votes hk
  · exact ⟨(h.seen.blk hk).1, (h.seen.blk hk).2.1⟩
/-- The blocks of a client are four different ones. -/
theorem CliAt.ne_pv {w : World} {base : Nat} {c : Cli} (h : CliAt w base c) : c.pv.ownBlock ≠ some c.C := own_blk_ne h.pers h.blk (by decide)
theorem CliAt.ne_vv {w : World} {base : Nat} {c : Cli} (h : CliAt w base c) : c.vv.ownBlock ≠ some c.C := own_blk_ne h.votes h.blk (by decide)
theorem map_blk_ne {w : World} {g b n : Nat} {t k : TypeId} {cs : Array Value} {f : Value → Option Value} {P : Program} (h : Blk w g t cs) (hm : MapV w P k b n f) : g ≠ b := by
  rintro rfl
  obtain ⟨D, ⟨es, clock, hb, _⟩, _⟩ := hm
  unfold Blk at h
  rw [h] at hb
  cases hb
theorem CliAt.ne_mv {w : World} {base : Nat} {c : Cli} (h : CliAt w base c) : mapBlk c.mv ≠ some c.C := fun e => map_blk_ne h.blk (h.seen.blk e).2.2 rfl
theorem CliAt.pv_vv {w : World} {base : Nat} {c : Cli} (h : CliAt w base c) {k : Nat} (hk : c.pv.ownBlock = some k) : c.vv.ownBlock ≠ some k := own_own_ne h.pers h.votes (by decide) hk
theorem CliAt.pv_mv {w : World} {base : Nat} {c : Cli} (h : CliAt w base c) {k : Nat} (hk : c.pv.ownBlock = some k) : mapBlk c.mv ≠ some k := fun e => own_map_ne h.pers (h.seen.blk e).2.2 hk
theorem CliAt.vv_mv {w : World} {base : Nat} {c : Cli} (h : CliAt w base c) {k : Nat} (hk : c.vv.ownBlock = some k) : mapBlk c.mv ≠ some k := fun e => own_map_ne h.votes (h.seen.blk e).2.2 hk
/-- A block of another kind does not belong to the client. -/
theorem CliAt.off {w : World} {base g : Nat} {t : TypeId} {cs : Array Value} {c : Cli} (h : CliAt w base c) (hb : Blk w g t cs) (h1 : tCli ≠ t) (h2 : 67 ≠ t) (h3 : 43 ≠ t) : ¬ c.foot g := fun hk => by
  rcases hk with hk | hk | hk | hk
  · exact Blk.ne_ h.blk hb h1 hk.symm
  · exact own_blk_ne h.pers hb h2 hk
  · exact own_blk_ne h.votes hb h3 hk
  · exact map_blk_ne hb (h.seen.blk hk).2.2 rfl
section
variable {w : World} {c : Cli}
theorem cli_at {g : Nat} (h : Blk w g tCli (cliC c).toArray) {k : Nat} {v : Value} (hk : (cliC c)[k]? = some v) : w.cell? ⟨g, k, none⟩ = some v := by
  rw [Blk.cell h]; simpa using hk
theorem cliC_tail (hl : c.head.root.length = 32) (j : Nat) : (cliC c)[42 + j]? = [c.vv, c.mv, .bool c.rc][j]? := by
  unfold cliC
  rw [List.getElem?_append_right (by show 9 ≤ _; omega), show (cliA c).length = 9 from rfl, List.getElem?_append_right (by rw [hdC_len hl]; omega), hdC_len hl]
  congr 1; omega
theorem cliC_head (j : Nat) (hj : j < 9) : (cliC c)[j]? = (cliA c)[j]? := by
  unfold cliC
  rw [List.getElem?_append_left (by show j < 9; omega)]
theorem cli_id {g : Nat} (h : Blk w g tCli (cliC c).toArray) : w.cell? ⟨g, 0, none⟩ = some (.int .i64 c.id) := cli_at h (cliC_head 0 (by omega))
theorem cli_sent {g : Nat} (h : Blk w g tCli (cliC c).toArray) : w.cell? ⟨g, 7, none⟩ = some (.bool c.sent) := cli_at h (cliC_head 7 (by omega))
theorem cli_text {g : Nat} (h : Blk w g tCli (cliC c).toArray) : w.cell? ⟨g, 8, none⟩ = some (.string c.text) := cli_at h (cliC_head 8 (by omega))
theorem cli_setup {g : Nat} (h : Blk w g tCli (cliC c).toArray) : w.rangeAt g 1 [c.pv, .int .i64 0, .slice none 0 0, .slice none 0 0, .int .i64 0, .int .i64 0] := fun j v hj => by
  have hj2 := (List.getElem?_eq_some_iff.1 hj).1
  simp only [List.length_cons, List.length_nil] at hj2
  refine cli_at h ((cliC_head (1 + j) (by omega)).trans ?_)
  match j, hj2 with
  | 0, _ | 1, _ | 2, _ | 3, _ | 4, _ | 5, _ => exact hj
theorem cli_size {g : Nat} (h : Blk w g tCli (cliC c).toArray) : w.cell? ⟨g, 9, none⟩ = some (.int .i64 c.head.size) := by
  refine cli_at h ?_
  unfold cliC
  rw [List.getElem?_append_right (by show 9 ≤ 9; omega)]
  rfl
theorem cli_hd {g : Nat} (h : Blk w g tCli (cliC c).toArray) : w.rangeAt g 9 (hdC c.head) := fun j v hj => by
  have hj2 := (List.getElem?_eq_some_iff.1 hj).1
  refine cli_at h ?_
  unfold cliC
  rw [List.getElem?_append_right (by show 9 ≤ 9 + j; omega), show (cliA c).length = 9 from rfl, Nat.add_sub_cancel_left, List.getElem?_append_left hj2]
  exact hj
theorem cli_votes {g : Nat} (h : Blk w g tCli (cliC c).toArray) (hl : c.head.root.length = 32) : w.cell? ⟨g, 42, none⟩ = some c.vv := cli_at h (cliC_tail hl 0)
theorem cli_seen {g : Nat} (h : Blk w g tCli (cliC c).toArray) (hl : c.head.root.length = 32) : w.cell? ⟨g, 43, none⟩ = some c.mv := cli_at h (cliC_tail hl 1)
theorem cli_rc {g : Nat} (h : Blk w g tCli (cliC c).toArray) (hl : c.head.root.length = 32) : w.cell? ⟨g, 44, none⟩ = some (.bool c.rc) := cli_at h (cliC_tail hl 2)
theorem set_tail (hl : c.head.root.length = 32) (j : Nat) (hj : j < 3) (v : Value) : (cliC c).set (42 + j) v = cliA c ++ (hdC c.head ++ ([c.vv, c.mv, .bool c.rc].set j v)) := by
  unfold cliC
  rw [List.set_append_right _ _ (by show 9 ≤ _; omega), show (cliA c).length = 9 from rfl, List.set_append_right _ _ (by rw [hdC_len hl]; omega), hdC_len hl]
  congr 3; omega
theorem set_head (j : Nat) (hj : j < 9) (v : Value) : (cliC c).set j v = (cliA c).set j v ++ (hdC c.head ++ [c.vv, c.mv, .bool c.rc]) := by
  unfold cliC
  rw [List.set_append_left _ _ (by show j < 9; omega)]
theorem blk_put {g k : Nat} {cs ds : List Value} {v : Value} (h : Blk w g tCli cs.toArray) (e : cs.set k v = ds) : Blk (w.setCell ⟨g, k, none⟩ v) g tCli ds.toArray := by
  have h1 := Blk.set_ h k v
  rw [show (cs.toArray).setIfInBounds k v = ds.toArray by rw [List.setIfInBounds_toArray, e]] at h1
  exact h1
theorem cli_put_seen {g : Nat} (h : Blk w g tCli (cliC c).toArray) (hl : c.head.root.length = 32) (v : Value) (M : List Vt) : Blk (w.setCell ⟨g, 43, none⟩ v) g tCli (cliC { c with mv := v, seen := M }).toArray := blk_put h (set_tail hl 1 (by omega) v)
theorem cli_put_votes {g : Nat} (h : Blk w g tCli (cliC c).toArray) (hl : c.head.root.length = 32) (v : Value) (M : List Vt) : Blk (w.setCell ⟨g, 42, none⟩ v) g tCli (cliC { c with vv := v, votes := M }).toArray := blk_put h (set_tail hl 0 (by omega) v)
theorem cli_put_rc {g : Nat} (h : Blk w g tCli (cliC c).toArray) (hl : c.head.root.length = 32) (b : Bool) : Blk (w.setCell ⟨g, 44, none⟩ (.bool b)) g tCli (cliC { c with rc := b }).toArray := blk_put h (set_tail hl 2 (by omega) _)
theorem cli_put_sent {g : Nat} (h : Blk w g tCli (cliC c).toArray) (b : Bool) : Blk (w.setCell ⟨g, 7, none⟩ (.bool b)) g tCli (cliC { c with sent := b }).toArray := blk_put h (set_head 7 (by omega) _)
theorem cli_put_text {g : Nat} (h : Blk w g tCli (cliC c).toArray) (t : ByteArray) : Blk (w.setCell ⟨g, 8, none⟩ (.string t)) g tCli (cliC { c with text := t }).toArray := blk_put h (set_head 8 (by omega) _)
theorem cli_put_head {g : Nat} (h : Blk w g tCli (cliC c).toArray) (hl : c.head.root.length = 32) (x : Hd) (hx : x.root.length = 32) : Blk (w.setCells g 9 (hdC x)) g tCli (cliC { c with head := x }).toArray := by
  have h1 := Blk.setCells (hdC x) 9 h
  have e : setMany (cliC c) 9 (hdC x) = cliC { c with head := x } := by
    rw [setMany_eq _ _ _ (by rw [cliC_len hl, hdC_len hx]; omega), hdC_len hx]
    unfold cliC
    have e1 : (cliA c ++ (hdC c.head ++ [c.vv, c.mv, Value.bool c.rc])).take 9 = cliA c := by rw [List.take_append_of_le_length (by exact Nat.le_refl 9)]; rfl
    have e2 : (cliA c ++ (hdC c.head ++ [c.vv, c.mv, Value.bool c.rc])).drop (9 + 33) = [c.vv, c.mv, Value.bool c.rc] := by
      rw [← List.drop_drop, show (cliA c ++ (hdC c.head ++ [c.vv, c.mv, Value.bool c.rc])).drop 9 = hdC c.head ++ [c.vv, c.mv, Value.bool c.rc] from rfl, List.drop_append, hdC_len hl, List.drop_of_length_le (by rw [hdC_len hl]; exact Nat.le_refl _)]
      rfl
    rw [e1, e2, List.append_assoc]
    rfl
  rw [e] at h1
  exact h1
end
/-- What a client's call turns: what belongs to it; and it takes nothing but new blocks. -/
def CliStep (w w' : World) (c c' : Cli) : Prop := Only c.foot w w' ∧ ∀ k, c'.foot k → c.foot k ∨ w.heap.size ≤ k
theorem CliStep.refl (w : World) (c : Cli) : CliStep w w c c := ⟨Only.refl _ _, fun _ h => .inl h⟩
theorem CliStep.trans {w w' w'' : World} {c c' c'' : Cli} (h : CliStep w w' c c') (k : CliStep w' w'' c' c'') : CliStep w w'' c c'' :=
  ⟨h.1.trans' k.1 (fun i hi hf => by rcases h.2 i hf with h1 | h1; exact h1; omega), fun i hi => by
    rcases k.2 i hi with h1 | h1
    · exact h.2 i h1
    · exact .inr (Nat.le_trans h.1.size h1)⟩
theorem CliStep.nn {w w' : World} {c : Cli} (h : Only NoneOf w w') : CliStep w w' c c := ⟨h.mono (fun _ _ e => e.elim), fun _ h => .inl h⟩
theorem CliStep.only {w0 w w' : World} {base : Nat} {c c' : Cli} (h : CliStep w w' c c') (hc : CliAt w base c) (h0 : Only NoneOf w0 w) (hb : w0.heap.size ≤ base) : Only NoneOf w0 w' :=
  h0.trans' h.1 (fun i hi hf => by have := (hc.foot_in hf).1; omega)
theorem CliStep.put {w W : World} {c c' : Cli} (h : CliStep w W c c') {R : Nat} (hR : w.heap.size ≤ R) (o : Nat) (vs : List Value) : CliStep w (W.setCells R o vs) c c' := ⟨only_setCells h.1 R o (.inr hR) vs, h.2⟩
end Go.Proofs.YtgalfohobgjelaaGreatDoor
namespace Go.Proofs.YtgalfohobgjelaaGreatDoor
open Go.RowKit
/-- A class of worlds as a family. -/
theorem family (S : World → Prop) {W0 : World} (h0 : S W0) : ∃ (I : Type) (f : I → World), Nonempty I ∧ (∃ x, W0 = f x) ∧ (∀ W, S W ↔ ∃ x, W = f x) ∧ ∀ x, S (f x) :=
  ⟨{W // S W}, Subtype.val, ⟨⟨W0, h0⟩⟩, ⟨⟨W0, h0⟩, rfl⟩, fun W => ⟨fun h => ⟨⟨W, h⟩, rfl⟩, fun ⟨x, hx⟩ => hx ▸ x.2⟩, fun x => x.2⟩
theorem wp_region_family {P : Program} {id : Nat} {Q : Exit → Act → World → Prop} {a : Act} {w : World} {l : List Oper} {I : Type} (f : I → World) (hm : P.follows .mixedOrders = true) (hB : Region.lexB .any l.toArray = true) (hC : ∃ x, w.drew = f x)
    (h : wpQuiet P l.toArray (fun w' => ∃ x, w' = f x) (fun a' => ∀ w', (∃ x, w' = f x) → Q .normal a' w') l a) : (Code.region id l.toArray true).wp P Q a w :=
  wp_region_quiet (C := fun w' => ∃ x, w' = f x) hm hB hC (by simpa using h)
/-- The same with a tail in a forced order (a store, say), told of every world of the class. -/
theorem wp_region_family_tail {P : Program} {id : Nat} {Q : Exit → Act → World → Prop} {a : Act} {w : World} {l : List Oper} {I : Type} (f : I → World) (n : Nat) (hm : P.follows .mixedOrders = true) (hB : Region.lexTailB .any l.toArray n = true) (hC : ∃ x, w.drew = f x)
    (h : wpQuiet P l.toArray (fun w' => ∃ x, w' = f x) (fun a' => ∀ w', (∃ x, w' = f x) → wpList P l.toArray Q (l.drop n) a' w') (l.take n) a) : (Code.region id l.toArray true).wp P Q a w := by
  simp only [Region.lexTailB, Bool.and_eq_true, decide_eq_true_eq] at hB
  obtain ⟨⟨⟨⟨hsel, hn⟩, hs⟩, hc⟩, hlex⟩ := hB
  have hn' : n < l.length := by simpa using hn
  have htl : (l.take n).length = n := by rw [List.length_take]; omega
  have hdl : (l.drop n).length = l.toArray.size - n := by simp
  have inv0 : HeadInv .any l.toArray n (Array.replicate l.toArray.size false) :=
    ⟨by simp, fun j _ _ hl => (by rw [getD_replicate_false] at hl; cases hl), fun t _ ht => getD_in (by simpa using ht) (getD_replicate_false _ _)⟩
  have H := head_lex (g := l.toArray.size - n) hsel hs hc hn (l.take n) 0 _ a (fun j hj => by
    have : j < n := by rwa [htl] at hj
    simp [this]) (by simpa using htl) inv0 (by rw [htl]; exact hlex) h
  refine wp_region_any hm ?_
  have key := any_of_head (Q := Q) (g := l.toArray.size - n) (fun done a' w' hw' hL => by
    have := wpAny_of_seq (md := .any) (Q' := Q) (l.drop n) n done a' w' (fun j => by simp [List.getElem?_drop]) (by rw [hdl]; exact hL.1) (hL.2 w' hw')
    rwa [hdl] at this) _ _ _ { w with drawn := w.drawn + 1 } hC H
  rw [htl, show n + (l.toArray.size - n) = l.toArray.size by omega] at key
  exact key
end Go.Proofs.YtgalfohobgjelaaGreatDoor
namespace Go.Proofs.YtgalfohobgjelaaGreatDoor
open Go.RowKit Go.Shelf
open Go.Maps (Keyed)
attribute [local go_sem ↓ high] vtLoad_eq
theorem map_nil_nil (W : World) : (binOp .eql 98 (.map none) (.map none)).run Tryz.prog W = .ok (.bool true) W := by kernel_rfl
theorem map_some_nil (b : Nat) (W : World) : (binOp .eql 98 (.map (some b)) (.map none)).run Tryz.prog W = .ok (.bool false) W := by kernel_rfl
theorem CliAt.reseen {w w' : World} {base : Nat} {c : Cli} (h : CliAt w base c) {b : Nat} (hb : c.mv = .map (some b)) (ho : Only (fun k => k = b) w w') {M : List Vt} (hM : MapV w' Tryz.prog tVt b M.length (seenV M)) (ok : VtsOk M) :
    CliAt w' base { c with seen := M } ∧ CliStep w w' c { c with seen := M } := by
  have hmb : mapBlk c.mv = some b := by rw [hb]; rfl
  have hbb := (h.seen.blk hmb).1
  refine ⟨⟨h.blk.only ho (fun e => h.ne_mv (by rw [hmb, e])), h.lo, h.hok, own_only h.pers ho (fun k hk e => h.pv_mv hk (by rw [hmb, e])), own_only h.votes ho (fun k hk e => h.vv_mv hk (by rw [hmb, e])), h.ok, .inr ⟨b, hb, hbb, hM⟩, ok⟩, ho.mono (fun k _ e => .inr (.inr (.inr (by rw [hmb, e])))), fun k hk => .inl hk⟩
theorem CliAt.newmap {w : World} {base : Nat} {c : Cli} (h : CliAt w base c) (_hmv : c.mv = .map none) (hb : base ≤ w.heap.size) :
    CliAt ((w.alloc (.map #[] 0)).setCell ⟨c.C, 43, none⟩ (.map (some w.heap.size))) base { c with mv := .map (some w.heap.size), seen := [] } ∧ CliStep w ((w.alloc (.map #[] 0)).setCell ⟨c.C, 43, none⟩ (.map (some w.heap.size))) c { c with mv := .map (some w.heap.size), seen := [] } := by
  have hlt : c.C < w.heap.size := Blk.lt h.blk
  have ho1 : Only NoneOf w (w.alloc (.map #[] 0)) := (Only.refl _ _).alloc _
  have h1 := h.nn ho1
  have ho2 : Only (fun k => k = c.C) (w.alloc (.map #[] 0)) ((w.alloc (.map #[] 0)).setCell ⟨c.C, 43, none⟩ (.map (some w.heap.size))) := (Only.refl (fun k => k = c.C) _).setCell (p := ⟨c.C, 43, none⟩) (.inl rfl) _
  have hm := MapV.made w Tryz.prog 43
  refine ⟨⟨cli_put_seen h1.blk h1.hok.root _ _, h.lo, h.hok, own_only h1.pers ho2 (fun k hk e => h1.ne_pv (by rw [hk, e])), own_only h1.votes ho2 (fun k hk e => h1.ne_vv (by rw [hk, e])), h.ok, .inr ⟨w.heap.size, rfl, hb, ?_⟩, fun v hv => by cases hv⟩, (ho1.mono (fun _ _ e => e.elim)).trans' ho2 (fun i _ e => .inl e), fun k hk => ?_⟩
  · rw [seenV_nil]
    exact MapV.only hm ho2 (by omega)
  · rcases hk with hk | hk | hk | hk
    · exact .inl (.inl hk)
    · exact .inl (.inr (.inl hk))
    · exact .inl (.inr (.inr (.inl hk)))
    · right
      have : w.heap.size = k := by simpa [mapBlk] using hk
      omega
theorem see_look {W : World} {base b : Nat} {c : Cli} (h : CliAt W base c) (hb : c.mv = .map (some b)) {v : Vt} (vo : v.Ok) : (Instr.lookup 98 (.map (some b)) (.agg (vtC v).toArray) false).run Tryz.prog W = .ok (.bool (hasB c.seen v)) W := by
  obtain ⟨kl, hk⟩ := key_vt vo
  have hm := (h.seen.blk (k := b) (by rw [hb]; rfl)).2.2
  have hlk := hm.look vt_law Tryz.underlying98 (zero_bool W) hk
  rw [hlk]
  cases hh : hasB c.seen v with
  | true => rw [seenV_in (hasB_true.1 hh)]; rfl
  | false => rw [seenV_out h.sok vo (fun hm => by rw [hasB_true.2 hm] at hh; cases hh)]; rfl
/-- What lies there once there is a map. -/
structure FrS (w : World) (base N : Nat) (c0 c : Cli) (v : Vt) (b : Nat) (W : World) : Prop where
  cli : CliAt W base c
  v : VtAt W N v
  step : CliStep w W c0 c
theorem FrS.keep {w : World} {base N : Nat} {c0 c : Cli} {v : Vt} {b : Nat} {W W' : World} (h : FrS w base N c0 c v b W) (ho : Only NoneOf W W') : FrS w base N c0 c v b W' :=
  ⟨h.cli.nn ho, Blk.only h.v ho (fun e => e), h.step.trans (CliStep.nn ho)⟩
theorem take1_in {M : List Vt} {v : Vt} (h : hasB M v = true) : take1 M v = M := by unfold take1; rw [if_pos h]
theorem take1_out {M : List Vt} {v : Vt} (h : hasB M v = false) : take1 M v = M ++ [v] := by unfold take1; rw [if_neg (by rw [h]; simp)]
set_option maxRecDepth 100000 in
set_option maxHeartbeats 4000000 in
theorem fresh_any (c : Cli) (v : Vt) (vo : v.Ok) (base : Nat) (w : World) (h : CliAt w base c) (hb : base ≤ w.heap.size) (hn : c.seen.length ≤ 1000000) :
    Calls Tryz.prog 77 #[.pointer (some ⟨c.C, 0, none⟩), .agg (vtC v).toArray] w fun e w' => e = .returned (.bool (!hasB c.seen v)) ∧ ∃ mv', CliAt w' base { c with mv := mv', seen := take1 c.seen v } ∧ CliStep w w' c { c with mv := mv', seen := take1 c.seen v } := by
  have ho0 : Only NoneOf w (w.alloc (.cells (vtC v).toArray 43)) := (Only.refl _ _).alloc _
  have hv0 : VtAt (w.alloc (.cells (vtC v).toArray 43)) w.heap.size v := Blk.new w _ _
  have h0 := h.nn ho0
  obtain ⟨N, eN⟩ : ∃ N, N = w.heap.size := ⟨_, rfl⟩
  rw [← eN] at hv0
  have hrl := h.hok.root
  have HVO := Lib.hid vo
  have EN := Lib.hid eN
  rcases h.seen with ⟨hmv, hM⟩ | ⟨b, hmv, hbb, hm⟩
  · have c43 : (w.alloc (.cells (vtC v).toArray 43)).cell? ⟨c.C, 43, none⟩ = some (.map none) := by rw [cli_seen h0.blk hrl, hmv]
    have c43b : ((w.alloc (.cells (vtC v).toArray 43)).alloc (.map #[] 0)).cell? ⟨c.C, 43, none⟩ = some (.map none) := by rw [cli_seen (Blk.alloc h0.blk _) hrl, hmv]
    have c43f : ((w.alloc (.cells (vtC v).toArray 43)).alloc (.map #[] 0)).frozen? ⟨c.C, 43, none⟩ = false := (Blk.alloc h0.blk _).frozen 43
    have q1 := map_nil_nil
    have hmm := @run_makeMap Tryz.prog
    have hZ := h0.newmap hmv (by rw [World.size_alloc]; omega)
    rw [World.size_alloc, ← eN] at hZ
    obtain ⟨b, eb⟩ : ∃ b, b = N + 1 := ⟨_, rfl⟩
    rw [← eb] at hZ
    obtain ⟨c1, ec1⟩ : ∃ c1 : Cli, c1 = { c with mv := .map (some b), seen := [] } := ⟨_, rfl⟩
    rw [← ec1] at hZ
    have eC : c1.C = c.C := by rw [ec1]
    have hv1 : VtAt (((w.alloc (.cells (vtC v).toArray 43)).alloc (.map #[] 0)).setCell ⟨c.C, 43, none⟩ (.map (some b))) N v := Blk.far (Blk.alloc hv0 _) (by
      have := Blk.lt h.blk
      show N ≠ c.C
      omega) _
    have hS0 : FrS w base N c c1 v b (((w.alloc (.cells (vtC v).toArray 43)).alloc (.map #[] 0)).setCell ⟨c.C, 43, none⟩ (.map (some b))) := ⟨hZ.1, hv1, (CliStep.nn ho0).trans hZ.2⟩
    have hm1 : c1.mv = .map (some b) := by rw [ec1]
    have hM1 : c1.seen = [] := by rw [ec1]
    have hbf : hasB c1.seen v = false := by rw [hM1]; rfl
    have hres : ∀ (W : World) (M : List Vt), M = take1 c1.seen v → CliAt W base { c1 with seen := M } ∧ CliStep w W c { c1 with seen := M } → ∃ mv', CliAt W base { c with mv := mv', seen := take1 c.seen v } ∧ CliStep w W c { c with mv := mv', seen := take1 c.seen v } := fun W M e hh => ⟨.map (some b), by
      rw [e, ec1] at hh
      rw [hM]
      exact hh⟩
    have hvl : (!hasB c.seen v) = (!false) := by rw [hM]; rfl
    rw [hvl]
    have EB : Hid (b = w.heap.size + 1) := Lib.hid (by rw [eb, eN])
    have hn1 : c1.seen.length ≤ 1000000 := by rw [hM1]; simp
    have HS0 := Lib.hid hS0
    have HR := Lib.hid hres
    have HM1 := Lib.hid hm1
    have HRL : Hid (c1.head.root.length = 32) := Lib.hid (by rw [ec1]; exact hrl)
    have HBF := Lib.hid hbf
    have EC := Lib.hid eC
    clear hmv hM hZ ec1 hv1 hS0 hm1 hM1 hbf hres hvl ho0 hv0 h0 eN hrl vo h eb eC
    go_enter Tryz.func77, Tryz.ntmps77
    go_upto_region 3 with (fail)
    rw [← EB.out, ← EN.out]
    refine wp_gen (FrS w base N c c1 v b) HS0.out ?_
    intro Z hZ
    have HZ := Lib.hid hZ
    clear hZ HS0 c43 c43b c43f q1 hmm
    obtain ⟨ft, hfx⟩ := family (FrS w base N c c1 v b) (W0 := Z.drew) (HZ.out.keep (Only.refl NoneOf Z).drew)
    obtain ⟨F, hI, hF0, hF, hFS⟩ := hfx
    have f1 : ∀ x, (F x).cell? ⟨c.C, 43, none⟩ = some (.map (some b)) := fun x => by rw [← EC.out, cli_seen (hFS x).cli.blk HRL.out, HM1.out]
    have f2 : ∀ x, (vtLoad (.pointer (some ⟨N, 0, none⟩))).run Tryz.prog (F x) = .ok (.agg (vtC v).toArray) (F x) := fun x => vt_load (blk_range (hFS x).v) HVO.out.head.root
    have f3 : ∀ x, (Instr.lookup 98 (.map (some b)) (.agg (vtC v).toArray) false).run Tryz.prog (F x) = .ok (.bool false) (F x) := fun x => by rw [see_look (hFS x).cli HM1.out HVO.out, HBF.out]
    have HF := Lib.hid hF
    have HF0 := Lib.hid hF0
    clear hF hF0 hFS
    refine wp_region_family F (by kernel_rfl) (by kernel_rfl) HF0.out ?_
    repeat (go_big_quiet_step (fail))
    refine wpQuiet_nil ?_
    intro w9 hw9
    have HZ9 := Lib.hid ((HF.out w9).2 hw9)
    clear hw9 f1 f2 f3 HF HF0 hI
    go_upto_region 5 with (fail)
    obtain ⟨ft, hfx⟩ := family (FrS w base N c c1 v b) (W0 := w9.drew) (HZ9.out.keep (Only.refl NoneOf w9).drew)
    obtain ⟨F, hI, hF0, hF, hFS⟩ := hfx
    have f1 : ∀ x, (F x).cell? ⟨c.C, 43, none⟩ = some (.map (some b)) := fun x => by rw [← EC.out, cli_seen (hFS x).cli.blk HRL.out, HM1.out]
    have f2 : ∀ x, (vtLoad (.pointer (some ⟨N, 0, none⟩))).run Tryz.prog (F x) = .ok (.agg (vtC v).toArray) (F x) := fun x => vt_load (blk_range (hFS x).v) HVO.out.head.root
    have f3x : True := trivial
    have f3 : ∀ x, (Instr.lookup 98 (.map (some b)) (.agg (vtC v).toArray) false).run Tryz.prog (F x) = .ok (.bool false) (F x) := fun x => by rw [see_look (hFS x).cli HM1.out HVO.out, HBF.out]
    have HF := Lib.hid hF
    have HF0 := Lib.hid hF0
    clear hF hF0 hFS
    refine wp_region_family_tail F 5 (by kernel_rfl) (by kernel_rfl) HF0.out ?_
    simp only [List.take_succ_cons, List.take_zero, List.drop_succ_cons, List.drop_zero]
    repeat (go_big_quiet_step (fail))
    refine wpQuiet_nil ?_
    intro w8 hw8
    have hZ8 := (HF.out w8).2 hw8
    obtain ⟨kl, hkl⟩ := key_vt HVO.out
    have hmm8 := (hZ8.cli.seen.blk (k := b) (by rw [HM1.out]; rfl)).2.2
    have HZ8 := Lib.hid hZ8
    have HKL := Lib.hid hkl
    have HMM := Lib.hid hmm8
    clear hw8 hZ8 hkl hmm8 f1 f2 f3 f3x HF HF0 hI
    go_wp2_with (at_mapUpdate; refine wpList_put _ rfl _ _ _ 98 rfl 43 4 vt_law Tryz.underlying98 b c1.seen.length _ rfl HMM.out (by rw [maxLen_val]; omega) _ _ _ rfl rfl HKL.out ?_; intro w7 hown7 hgrow7)
    have hrs := HZ8.out.cli.reseen HM1.out ((Only.refl (fun k => k = b) w8).grown hgrow7 (fun k e => by cases e; exact .inl rfl)) (M := c1.seen ++ [v]) (by rw [List.length_append]; exact hown7.congr (seenV_put _ _)) (fun x hx => by
      rcases List.mem_append.1 hx with hx | hx
      · exact HZ8.out.cli.sok x hx
      · rw [List.mem_singleton.1 hx]; exact HVO.out)
    have HRS := Lib.hid (HR.out _ _ (take1_out HBF.out).symm ⟨hrs.1, HZ8.out.step.trans hrs.2⟩)
    clear hown7 hgrow7 hrs
    go_wp2_with fail
    go_ret
    exact ⟨rfl, HRS.out⟩
  · have c43 : (w.alloc (.cells (vtC v).toArray 43)).cell? ⟨c.C, 43, none⟩ = some (.map (some b)) := by rw [cli_seen h0.blk hrl, hmv]
    have q1 := map_some_nil b
    have hS0 : FrS w base N c c v b (w.alloc (.cells (vtC v).toArray 43)) := ⟨h0, hv0, CliStep.nn ho0⟩
    have HS0 := Lib.hid hS0
    have HM1 := Lib.hid hmv
    have HRL := Lib.hid hrl
    have EC : Hid (c.C = c.C) := Lib.hid rfl
    cases hbf : hasB c.seen v with
    | true =>
      have hres : ∀ (W : World), CliAt W base c ∧ CliStep w W c c → ∃ mv', CliAt W base { c with mv := mv', seen := take1 c.seen v } ∧ CliStep w W c { c with mv := mv', seen := take1 c.seen v } := fun W hh => ⟨c.mv, by
        rw [take1_in hbf]
        exact hh⟩
      have HR := Lib.hid hres
      have HBF := Lib.hid hbf
      clear hmv hS0 hres ho0 hv0 h0 eN hrl vo h hbf hm hbb
      go_enter Tryz.func77, Tryz.ntmps77
      go_upto_region 3 with (fail)
      rw [← EN.out]
      refine wp_gen (FrS w base N c c v b) HS0.out ?_
      intro Z hZ
      have HZ := Lib.hid hZ
      clear hZ HS0 c43 q1
      obtain ⟨ft, hfx⟩ := family (FrS w base N c c v b) (W0 := Z.drew) (HZ.out.keep (Only.refl NoneOf Z).drew)
      obtain ⟨F, hI, hF0, hF, hFS⟩ := hfx
      have f1 : ∀ x, (F x).cell? ⟨c.C, 43, none⟩ = some (.map (some b)) := fun x => by rw [← EC.out, cli_seen (hFS x).cli.blk HRL.out, HM1.out]
      have f2 : ∀ x, (vtLoad (.pointer (some ⟨N, 0, none⟩))).run Tryz.prog (F x) = .ok (.agg (vtC v).toArray) (F x) := fun x => vt_load (blk_range (hFS x).v) HVO.out.head.root
      have f3 : ∀ x, (Instr.lookup 98 (.map (some b)) (.agg (vtC v).toArray) false).run Tryz.prog (F x) = .ok (.bool true) (F x) := fun x => by rw [see_look (hFS x).cli HM1.out HVO.out, HBF.out]
      have HF := Lib.hid hF
      have HF0 := Lib.hid hF0
      clear hF hF0 hFS
      refine wp_region_family F (by kernel_rfl) (by kernel_rfl) HF0.out ?_
      repeat (go_big_quiet_step (fail))
      refine wpQuiet_nil ?_
      intro w9 hw9
      have HZ9 := Lib.hid ((HF.out w9).2 hw9)
      clear hw9 f1 f2 f3 HF HF0 hI
      go_wp2_with fail
      go_ret
      exact ⟨rfl, HR.out _ ⟨HZ9.out.cli, HZ9.out.step⟩⟩
    | false =>
      have hres : ∀ (W : World) (M : List Vt), M = take1 c.seen v → CliAt W base { c with seen := M } ∧ CliStep w W c { c with seen := M } → ∃ mv', CliAt W base { c with mv := mv', seen := take1 c.seen v } ∧ CliStep w W c { c with mv := mv', seen := take1 c.seen v } := fun W M e hh => ⟨c.mv, by
        rw [e] at hh
        exact hh⟩
      have HR := Lib.hid hres
      have HBF := Lib.hid hbf
      have hn1 := hn
      clear hmv hS0 hres ho0 hv0 h0 eN hrl vo h hbf hm hbb
      go_enter Tryz.func77, Tryz.ntmps77
      go_upto_region 3 with (fail)
      rw [← EN.out]
      refine wp_gen (FrS w base N c c v b) HS0.out ?_
      intro Z hZ
      have HZ := Lib.hid hZ
      clear hZ HS0 c43 q1
      obtain ⟨ft, hfx⟩ := family (FrS w base N c c v b) (W0 := Z.drew) (HZ.out.keep (Only.refl NoneOf Z).drew)
      obtain ⟨F, hI, hF0, hF, hFS⟩ := hfx
      have f1 : ∀ x, (F x).cell? ⟨c.C, 43, none⟩ = some (.map (some b)) := fun x => by rw [← EC.out, cli_seen (hFS x).cli.blk HRL.out, HM1.out]
      have f2 : ∀ x, (vtLoad (.pointer (some ⟨N, 0, none⟩))).run Tryz.prog (F x) = .ok (.agg (vtC v).toArray) (F x) := fun x => vt_load (blk_range (hFS x).v) HVO.out.head.root
      have f3 : ∀ x, (Instr.lookup 98 (.map (some b)) (.agg (vtC v).toArray) false).run Tryz.prog (F x) = .ok (.bool false) (F x) := fun x => by rw [see_look (hFS x).cli HM1.out HVO.out, HBF.out]
      have HF := Lib.hid hF
      have HF0 := Lib.hid hF0
      clear hF hF0 hFS
      refine wp_region_family F (by kernel_rfl) (by kernel_rfl) HF0.out ?_
      repeat (go_big_quiet_step (fail))
      refine wpQuiet_nil ?_
      intro w9 hw9
      have HZ9 := Lib.hid ((HF.out w9).2 hw9)
      clear hw9 f1 f2 f3 HF HF0 hI
      go_upto_region 5 with (fail)
      obtain ⟨ft, hfx⟩ := family (FrS w base N c c v b) (W0 := w9.drew) (HZ9.out.keep (Only.refl NoneOf w9).drew)
      obtain ⟨F, hI, hF0, hF, hFS⟩ := hfx
      have f1 : ∀ x, (F x).cell? ⟨c.C, 43, none⟩ = some (.map (some b)) := fun x => by rw [← EC.out, cli_seen (hFS x).cli.blk HRL.out, HM1.out]
      have f2 : ∀ x, (vtLoad (.pointer (some ⟨N, 0, none⟩))).run Tryz.prog (F x) = .ok (.agg (vtC v).toArray) (F x) := fun x => vt_load (blk_range (hFS x).v) HVO.out.head.root
      have f3x : True := trivial
      have f3 : ∀ x, (Instr.lookup 98 (.map (some b)) (.agg (vtC v).toArray) false).run Tryz.prog (F x) = .ok (.bool false) (F x) := fun x => by rw [see_look (hFS x).cli HM1.out HVO.out, HBF.out]
      have HF := Lib.hid hF
      have HF0 := Lib.hid hF0
      clear hF hF0 hFS
      refine wp_region_family_tail F 5 (by kernel_rfl) (by kernel_rfl) HF0.out ?_
      simp only [List.take_succ_cons, List.take_zero, List.drop_succ_cons, List.drop_zero]
      repeat (go_big_quiet_step (fail))
      refine wpQuiet_nil ?_
      intro w8 hw8
      have hZ8 := (HF.out w8).2 hw8
      obtain ⟨kl, hkl⟩ := key_vt HVO.out
      have hmm8 := (hZ8.cli.seen.blk (k := b) (by rw [HM1.out]; rfl)).2.2
      have HZ8 := Lib.hid hZ8
      have HKL := Lib.hid hkl
      have HMM := Lib.hid hmm8
      clear hw8 hZ8 hkl hmm8 f1 f2 f3 f3x HF HF0 hI
      go_wp2_with (at_mapUpdate; refine wpList_put _ rfl _ _ _ 98 rfl 43 4 vt_law Tryz.underlying98 b c.seen.length _ rfl HMM.out (by rw [maxLen_val]; omega) _ _ _ rfl rfl HKL.out ?_; intro w7 hown7 hgrow7)
      have hrs := HZ8.out.cli.reseen HM1.out ((Only.refl (fun k => k = b) w8).grown hgrow7 (fun k e => by cases e; exact .inl rfl)) (M := c.seen ++ [v]) (by rw [List.length_append]; exact hown7.congr (seenV_put _ _)) (fun x hx => by
        rcases List.mem_append.1 hx with hx | hx
        · exact HZ8.out.cli.sok x hx
        · rw [List.mem_singleton.1 hx]; exact HVO.out)
      have HRS := Lib.hid (HR.out _ _ (take1_out HBF.out).symm ⟨hrs.1, HZ8.out.step.trans hrs.2⟩)
      clear hown7 hgrow7 hrs
      go_wp2_with fail
      go_ret
      exact ⟨rfl, HRS.out⟩
end Go.Proofs.YtgalfohobgjelaaGreatDoor
namespace Go.Proofs.YtgalfohobgjelaaGreatDoor
open Go.RowKit Go.Shelf
def secI (id : Int) : Int := 1000 + 7 * id
set_option maxHeartbeats 1000000 in
theorem secret_any (id : Int) (h0 : -1000000 ≤ id) (h1 : id ≤ 1000000) (w : World) : Calls Tryz.prog 39 #[.int .i64 id] w fun e w' => e = .returned (.int .i64 (secI id)) ∧ w' = w := by
  go_enter Tryz.func39, Tryz.ntmps39
  go_wp2_with fail
  go_ret
  exact ⟨ret_int (by unfold secI; omega), rfl⟩
noncomputable def offAt (k : Nat) : Pers := ⟨(k : Int), 2, (pub (secI k) : Int)⟩
noncomputable def clerk : Pers := ⟨50, 1, (pub (secI 50) : Int)⟩
noncomputable def setB (m : Nat) : List Pers := clerk :: (List.range m).map (fun j => offAt (j + 1))
theorem setB_snoc (m : Nat) : setB (m + 1) = setB m ++ [offAt (m + 1)] := by simp [setB, List.range_succ]
theorem setB_len (m : Nat) : (setB m).length = m + 1 := by simp [setB]
/-- How many officers a setup has. -/
def nOff (n : Int) : Nat := (min n 13).toNat
theorem nOff_le (n : Int) : nOff n ≤ 13 := by unfold nOff; omega
abbrev tSu : TypeId := 50
def suStore (p v : Value) : Sem Unit := Instr.storeAt 50 p v
theorem suStore_eq (p v : Value) : Instr.storeAt 50 p v = suStore p v := rfl
theorem su_store {W : World} {R n c : Nat} {A : Option Addr} {cs : Array Value} (h : Blk W R tSu cs) (hs : cs.size = 6) : (suStore (.pointer (some ⟨R, 0, none⟩)) (.agg #[.slice A n c, .int .i64 0, .slice none 0 0, .slice none 0 0, .int .i64 0, .int .i64 0])).run Tryz.prog W = .ok () (W.setCells R 0 [.slice A n c, .int .i64 0, .slice none 0 0, .slice none 0 0, .int .i64 0, .int .i64 0]) :=
  run_storeAt_mid (P := Tryz.prog) W R 0 50 #[.slice A n c, .int .i64 0, .slice none 0 0, .slice none 0 0, .int .i64 0, .int .i64 0] (h.there 0 _ (by rw [hs]; simp)) (by kernel_rfl) (by simp [Value.oneCell'])
attribute [local go_sem ↓ high] suStore_eq
/-- What the loop keeps. -/
structure StS (w : World) (R V : Nat) (m : Nat) (pv : Value) (W : World) : Prop where
  res : Blk W R tSu #[.slice none 0 0, .int .i64 0, .slice none 0 0, .slice none 0 0, .int .i64 0, .int .i64 0]
  st : Blk W V tSu #[pv, .int .i64 0, .slice none 0 0, .slice none 0 0, .int .i64 0, .int .i64 0]
  own : PerOwn W w.heap.size pv (m + 1) (setB m)
  only : Only NoneOf w W
end Go.Proofs.YtgalfohobgjelaaGreatDoor
namespace Go.Proofs.YtgalfohobgjelaaGreatDoor
theorem cnts_voted (p : Pers) (who sec : Int) (h : Hd) (hw : who = p.id) (hk : p.pub = (pub sec : Int)) : cnts p (voteOf who sec h) = true := by
  unfold cnts voteOf
  simp only [hw, hk, beq_self_eq_true, Bool.true_and]
  exact goodB_true.2 (good_signed sec (hdText h) (nonce (expo sec) (hdText h)))
theorem cnts_other (p : Pers) (v : Vt) (h : v.who ≠ p.id) : cnts p v = false := by
  unfold cnts
  rw [beq_eq_false_iff_ne.2 h]; rfl
noncomputable def vAt (h : Hd) (k : Nat) : Vt := voteOf (k : Int) (secI k) h
noncomputable def vts (h : Hd) (m : Nat) : List Vt := (List.range m).map (fun j => vAt h (j + 1))
theorem gp_in (n : Nat) : In (gp n : Int) := by
  have h1 : gp n < P0 := pw_lt 4 n
  have h2 := P0_val
  constructor <;> omega
theorem sig_in (x : Int) (text : List UInt8) (n : Nat) : In (sigS x text n : Int) := by
  have h1 := sigS_lt x text n
  have h2 := Q0_val
  constructor <;> omega
theorem vote_ok {who sec : Int} {h : Hd} (iw : In who) (ok : h.Ok) : (voteOf who sec h).Ok := ⟨iw, ok, gp_in _, sig_in _ _ _⟩
theorem cnts_at (h : Hd) (k j : Nat) : cnts (offAt k) (vAt h j) = decide (j = k) := by
  by_cases e : j = k
  · subst e
    rw [decide_eq_true rfl]
    exact cnts_voted _ _ _ _ rfl rfl
  · rw [decide_eq_false e]
    exact cnts_other _ _ (fun h => e (by have h2 : (j : Int) = (k : Int) := h; omega))
end Go.Proofs.YtgalfohobgjelaaGreatDoor
namespace Go.Proofs.YtgalfohobgjelaaGreatDoor
open Go.RowKit Go.Shelf
attribute [local go_sem ↓ high] hdLoad_eq vtLoad_eq hdNew_eq hdStore_eq vtBs1_eq
def h2 : Hd := ⟨2, rootZ⟩
/-- A head built, under a name that the walk does not open. -/
def hdBd (parts : Array (Nat × Value)) : Sem Value := Instr.build 37 parts
theorem hdBd_eq (parts : Array (Nat × Value)) : Instr.build 37 parts = hdBd parts := rfl
attribute [local go_sem ↓ high] hdBd_eq
theorem setB_ok (m : Nat) (hm : m ≤ 100) : PersOk (setB m) := fun p hp => by
  rcases List.mem_cons.1 hp with rfl | hp
  · exact ⟨⟨by decide, by decide⟩, ⟨by decide, by decide⟩, gp_in _⟩
  · obtain ⟨j, hj, rfl⟩ := List.mem_map.1 hp
    have := List.mem_range.1 hj
    exact ⟨⟨by show (-9223372036854775808 : Int) ≤ ((j + 1 : Nat) : Int); omega, by show ((j + 1 : Nat) : Int) ≤ 9223372036854775807; omega⟩, ⟨by show (-9223372036854775808 : Int) ≤ 2; omega, by show (2 : Int) ≤ 9223372036854775807; omega⟩, gp_in _⟩
end Go.Proofs.YtgalfohobgjelaaGreatDoor
