/- What is proved here: several parts. several parts. events are signed, by the program and by the reference. Conditions: names and texts are short; the table of powers of ten reads as its initialiser lays it. · signatures of events are verified, by the program and by the reference. Conditions: name and text are short; the table of powers of ten reads as its initialiser lays it. · the worlds, bids and lists of events that the client's laws make from numbers, in plain Lean; no program in sight. No conditions. · the writer of bids writes a line: a word and ints. Conditions: the texts are short, the ints lie apart from the writer's blocks. · a bid's text, by the bids' code. Conditions: the bid is well and its texts are short. · decimal texts and texts in hexadecimal by the bids' reference. Conditions: the numbers are ints, the texts short. · a bid's text, by the reference. Conditions: the bid is well and its texts are short. · a remainder; the bids of the client's laws. Condition: the number is an int. -/
import Derived.Test.YtgalfohobgjelaaGreatDoorFo04
import Derived.Test.YtgalfohobgjelaaGreatDoorFo08
import Derived.Test.YtgalfohobgjelaaGreatDoorFo09
import Derived.Test.YtgalfohobgjelaaGreatDoorFo12
import Derived.Test.YtgalfohobgjelaaGreatDoorFo18
import Derived.Test.YtgalfohobgjelaaGreatDoorFo20
import Derived.Test.YtgalfohobgjelaaGreatDoorFo21
import Derived.Test.YtgalfohobgjelaaGreatDoorFo26
import Derived.BigRegion
import Derived.Lib.UnsafeStr
namespace Go.Proofs.YtgalfohobgjelaaGreatDoor
open Go.RowKit Go.Shelf
attribute [local go_sem ↓ high] evStore_eq evLoad_eq
/-- A signed event. -/
noncomputable def signE (x : Int) (e : Ev) : Ev := { e with r := (gp (nonce (expo x) (evText e)) : Int), s := (sigS x (evText e) (nonce (expo x) (evText e)) : Int) }
theorem signE_ok {e : Ev} (h : e.Ok) (x : Int) : (signE x e).Ok := by
  have h1 := pw_lt 4 (nonce (expo x) (evText e))
  have h2 := sigS_lt x (evText e) (nonce (expo x) (evText e))
  rw [P0_val] at h1
  rw [Q0_val] at h2
  refine ⟨h.seq, h.kind, h.who, h.time, h.bidder, h.lot, h.n, h.other, h.sx, h.sy, h.prev, ⟨?_, ?_⟩, ⟨?_, ?_⟩⟩
  · show _ ≤ (gp _ : Int); omega
  · show (gp _ : Int) ≤ _; unfold gp; omega
  · show _ ≤ (sigS _ _ _ : Int); omega
  · show (sigS _ _ _ : Int) ≤ _; omega
theorem text_len {e : Ev} (he : e.Ok) (hn : e.name.size ≤ 4398046511104) (hx : e.text.size ≤ 4398046511104) : (evText e).length ≤ 17592186044416 := by
  have l1 := numsL_len e.nums he.nums_in
  have l2 := hexL_len e.prev
  have l3 := quoL_len e.name.data.toList (by rw [← size_list]; omega)
  have l4 := quoL_len e.text.data.toList (by rw [← size_list]; omega)
  rw [← size_list] at l3 l4
  rw [he.prev] at l2
  have l5 : e.nums.length = 10 := rfl
  unfold evText
  simp only [List.length_append, List.length_cons, List.length_nil]
  omega
set_option maxRecDepth 100000 in
set_option maxHeartbeats 4000000 in
theorem rsignE_any (x : Int) (e : Ev) (he : e.Ok) (hn : e.name.size ≤ 4398046511104) (hx : e.text.size ≤ 4398046511104) (w : World) : Calls Tryz.prog 38 #[.int .i64 x, .agg (evC e).toArray] w fun e' w' => e' = .returned (.agg (evC (signE x e)).toArray) ∧ Only NoneOf w w' := by
  have hlen := text_len he hn hx
  have htx : ∀ W, Only NoneOf w W → Calls Tryz.prog 67 #[.agg (evC e).toArray] W (RetStr (evText e) W) := fun W ho => revtext_any e he (by omega) (by omega) W
  have hsg : ∀ (t : ByteArray) W, t.data.toList = evText e → Calls Tryz.prog 70 #[.int .i64 x, .string t] W fun e' w' => e' = .returned (.agg #[.int .i64 (signE x e).r, .int .i64 (signE x e).s]) ∧ Only NoneOf W w' := fun t W h => by
    have h1 := rsign_any x t W (by rw [size_list, h]; exact hlen)
    rw [h] at h1
    exact h1
  obtain ⟨B, eB⟩ : ∃ B, B = w.heap.size := ⟨_, rfl⟩
  have hat : EvAt ((w.alloc (.cells (evC e).toArray tEv)).alloc (.cells (evC blank0).toArray tEv)) B e ∧ EvAt ((w.alloc (.cells (evC e).toArray tEv)).alloc (.cells (evC blank0).toArray tEv)) (B + 1) blank0 ∧ Only NoneOf w ((w.alloc (.cells (evC e).toArray tEv)).alloc (.cells (evC blank0).toArray tEv)) := by
    have h1 := Blk.new (w.alloc (.cells (evC e).toArray tEv)) tEv (evC blank0).toArray
    rw [World.size_alloc, ← eB] at h1
    exact ⟨by rw [eB]; exact (Blk.new w _ _).alloc _, h1, ((Only.refl _ _).alloc _).alloc _⟩
  obtain ⟨f, ef⟩ : ∃ f, f = signE x e := ⟨_, rfl⟩
  have hf : f.Ok := by rw [ef]; exact signE_ok he x
  have hfe : ({ ({ e with r := f.r } : Ev) with s := f.s } : Ev) = f := by rw [ef]; rfl
  rw [← ef] at hsg ⊢
  have hwB : w.heap.size ≤ B := by omega
  have HAT := Lib.hid hat
  have HTX := Lib.hid htx
  have HSG := Lib.hid hsg
  have HF := Lib.hid hf
  have HFE := Lib.hid hfe
  have HP := Lib.hid he.prev
  have HEB := Lib.hid eB
  clear hat htx hsg he hn hx hlen hf hfe ef eB
  go_enter Tryz.func38, Tryz.ntmps38
  go_upto_region 1 with (fail)
  rw [← HEB.out]
  refine wp_gen (fun Z => EvAt Z B e ∧ EvAt Z (B + 1) blank0 ∧ Only NoneOf w Z) HAT.out ?_
  rintro Z ⟨hE, hZ, hO⟩
  have hl := ev_load hE HP.out
  have HE := Lib.hid hE
  have HZ := Lib.hid hZ
  have HO := Lib.hid hO
  clear hE hZ hO HAT
  go_wp2_with fail
  refine (HTX.out Z HO.out).mono ?_
  rintro e1 w1 ⟨t, rfl, ht, ho1⟩
  have HS1 := Lib.hid (fun W => HSG.out t W ht)
  have HO1 := Lib.hid ho1
  clear hl ho1 ht HTX HSG
  go_wp2_with fail
  refine (HS1.out w1).mono ?_
  rintro e2 w2 ⟨rfl, ho2⟩
  have hE2 := (HE.out.only HO1.out (fun e => e)).only ho2 (fun e => e)
  have hZ2 := (HZ.out.only HO1.out (fun e => e)).only ho2 (fun e => e)
  have hO2 := (HO.out.trans HO1.out).trans ho2
  have c44 := (ev_sig hE2 HP.out).1
  have c45 := (ev_sig hE2 HP.out).2
  have f44 := Blk.frozen hE2 44
  have hE3 : EvAt (w2.setCell ⟨B, 44, none⟩ (.int .i64 f.r)) B { e with r := f.r } := ev_set hE2 (set_sig e HP.out _).1
  have f45 := Blk.frozen hE3 45
  have hE4 : EvAt ((w2.setCell ⟨B, 44, none⟩ (.int .i64 f.r)).setCell ⟨B, 45, none⟩ (.int .i64 f.s)) B f := by
    have h1 := ev_set hE3 (set_sig { e with r := f.r } HP.out f.s).2
    rw [HFE.out] at h1
    exact h1
  have hZ4 := Blk.far (p := ⟨B, 45, none⟩) (Blk.far (p := ⟨B, 44, none⟩) hZ2 (show B + 1 ≠ B by omega) (.int .i64 f.r)) (show B + 1 ≠ B by omega) (.int .i64 f.s)
  have hO4 := (hO2.setCell (p := ⟨B, 44, none⟩) (.inr hwB) (.int .i64 f.r)).setCell (p := ⟨B, 45, none⟩) (.inr hwB) (.int .i64 f.s)
  have HE4 := Lib.hid hE4
  have HZ4 := Lib.hid hZ4
  have HO4 := Lib.hid hO4
  clear hE2 hZ2 hO2 hE3 hE4 hZ4 hO4 HE HZ HO HO1 ho2 HFE
  go_upto_region 2 with (fail)
  refine wp_gen (fun Z => EvAt Z B f ∧ EvAt Z (B + 1) blank0 ∧ Only NoneOf w Z) ⟨HE4.out, HZ4.out, HO4.out⟩ ?_
  rintro Z4 ⟨hE5, hZ5, hO5⟩
  have hl5 := ev_load hE5 HF.out.prev
  have hst := ev_store (cs := evC blank0) hZ5 rfl (e := f) HF.out.prev
  have HZ6 := Lib.hid (setCells_own hZ5 (ds := evC f) (by rw [evC_len HF.out.prev]; rfl))
  have HO6 := Lib.hid (only_setCells hO5 (B + 1) 0 (.inr (by omega)) (evC f))
  have hinf : (Tryz.prog.info? 79).map (·.size) = some (evC f).toArray.size := by rw [List.size_toArray, evC_len HF.out.prev]; kernel_rfl
  have HINF := Lib.hid hinf
  clear c44 c45 f44 f45 hE5 hZ5 hO5 HE4 HZ4 HO4 hinf
  go_wp2_with fail
  refine bodyPost_ret (v := .agg (evC f).toArray) (results_blk rfl rfl HZ6.out Tryz.underlying79 rfl HINF.out) rfl ⟨rfl, HO6.out⟩
end Go.Proofs.YtgalfohobgjelaaGreatDoor
namespace Go.Proofs.YtgalfohobgjelaaGreatDoor
open Go.RowKit Go.Shelf
attribute [local go_sem ↓ high] evStore_eq evLoad_eq
end Go.Proofs.YtgalfohobgjelaaGreatDoor
namespace Go.Proofs.YtgalfohobgjelaaGreatDoor
def wordsN (l : List Int) : List UInt8 := l.flatMap (fun n => 32 :: Lib.itoa n)
def lineL (word : List UInt8) (l : List Int) : List UInt8 := word ++ wordsN l ++ [10]
/-- A bid. -/
structure Bd where
  bidder : Int
  qt : ByteArray
  qc : List Int
  pt : ByteArray
  pc : List Int
def wBid : List UInt8 := [98, 105, 100]
def wQuality : List UInt8 := [113, 117, 97, 108, 105, 116, 121]
def wPrice : List UInt8 := [112, 114, 105, 99, 101]
def encB (b : Bd) : List UInt8 := lineL wBid [b.bidder] ++ lineL wQuality b.qc ++ lineL (hexL b.qt.data.toList) [] ++ lineL wPrice b.pc ++ lineL (hexL b.pt.data.toList) []
/-- The bids of the laws. -/
def bidW (n : Int) : Bd := ⟨60, ⟨#[113, UInt8.ofNat (97 + (n % 4).toNat)]⟩, [4], ⟨#[]⟩, []⟩
def bidT (n : Int) : ByteArray := ⟨(encB (bidW n)).toArray⟩
/-- The world by numbers. -/
structure Wd where
  off : Nat
  kinds : List UInt8
  fork : Nat
structure Wd.Ok (d : Wd) : Prop where
  off : d.off < 256
  fork : d.fork < 256
def Wd.n (d : Wd) : Nat := 1 + d.off % 7
noncomputable def bidder (k : Nat) : Pers := ⟨(k : Int), 4, (pub (secI k) : Int)⟩
/-- The persons of the setup. -/
noncomputable def setW (d : Wd) : List Pers := setB d.n ++ [bidder 60, bidder 61]
def textAns : ByteArray := ⟨#[97, 110, 115, 119, 101, 114]⟩
/-- Event number k behind a hash, not yet signed. -/
def evRaw (d : Wd) (second : Bool) (k : Nat) (last : Hs) (x : Nat) : Ev :=
  { seq := (k : Int), kind := if x % 4 = 0 then 3 else 4, who := if x % 4 = 0 then 50 else 60 + ((x % 4 / 3 : Nat) : Int), time := (k : Int), bidder := 0, lot := 0, n := if second = true ∧ d.fork % 12 ≤ k then 1 else 0, other := 0, name := ⟨#[]⟩, text := if x % 4 = 0 then textAns else bidT ((x / 4 : Nat) : Int), sx := 0, sy := 0, prev := last, r := 0, s := 0 }
noncomputable def evAt (d : Wd) (second : Bool) (k : Nat) (last : Hs) (x : Nat) : Ev := signE (secI (evRaw d second k last x).who) (evRaw d second k last x)
noncomputable def evsGo (d : Wd) (second : Bool) : Nat → Hs → List UInt8 → List Ev
  | _, _, [] => []
  | k, last, x :: l => evAt d second k last x.toNat :: evsGo d second (k + 1) (hashE (evAt d second k last x.toNat)) l
noncomputable def evsW (d : Wd) (second : Bool) : List Ev := evsGo d second 0 zeroH (d.kinds.take 12)
/-- The hash behind the first k events. -/
noncomputable def lastE (last : Hs) : List Ev → Hs
  | [] => last
  | e :: l => lastE (hashE e) l
theorem lastE_snoc (e : Ev) : ∀ (l : List Ev) (last : Hs), lastE last (l ++ [e]) = hashE e
  | [], _ => rfl
  | x :: l, last => by rw [List.cons_append]; exact lastE_snoc e l _
theorem evsGo_snoc (d : Wd) (second : Bool) (x : UInt8) : ∀ (l : List UInt8) (k : Nat) (last : Hs), evsGo d second k last (l ++ [x]) = evsGo d second k last l ++ [evAt d second (k + l.length) (lastE last (evsGo d second k last l)) x.toNat]
  | [], k, last => rfl
  | y :: l, k, last => by
    rw [List.cons_append]
    simp only [evsGo]
    rw [evsGo_snoc d second x l, List.cons_append, List.length_cons]
    simp only [lastE]
    rw [show k + 1 + l.length = k + (l.length + 1) by omega]
theorem evsGo_len (d : Wd) (second : Bool) : ∀ (l : List UInt8) (k : Nat) (last : Hs), (evsGo d second k last l).length = l.length
  | [], _, _ => rfl
  | x :: l, k, last => by simp only [evsGo, List.length_cons, evsGo_len d second l]
theorem bidT_size (n : Int) : (bidT n).size ≤ 60 := by
  have h : ∀ k : Fin 4, ((encB ⟨60, ⟨#[113, UInt8.ofNat (97 + k.val)]⟩, [4], ⟨#[]⟩, []⟩).toArray).size ≤ 60 := by decide +kernel
  have hk : (n % 4).toNat < 4 := by omega
  exact h ⟨(n % 4).toNat, hk⟩
theorem evRaw_ok (d : Wd) (second : Bool) (k : Nat) (hk : k ≤ 2000) (last : Hs) (hl : last.length = 32) (x : Nat) : (evRaw d second k last x).Ok := by
  have h3 : x % 4 / 3 ≤ 1 := by omega
  refine ⟨?_, ?_, ?_, ?_, ?_, ?_, ?_, ?_, ?_, ?_, hl, ?_, ?_⟩
  all_goals (unfold evRaw In; simp only)
  any_goals (constructor <;> omega)
  all_goals (split <;> constructor <;> omega)
theorem evRaw_short (d : Wd) (second : Bool) (k : Nat) (last : Hs) (x : Nat) : (evRaw d second k last x).name.size ≤ 100 ∧ (evRaw d second k last x).text.size ≤ 100 := by
  unfold evRaw
  simp only
  refine ⟨by decide, ?_⟩
  split
  · decide
  · exact Nat.le_trans (bidT_size _) (by omega)
/-- The leaves of events. -/
noncomputable def leavesE (l : List Ev) : List ByteArray := l.map (fun e => ⟨(evCode e).toArray⟩)
end Go.Proofs.YtgalfohobgjelaaGreatDoor
namespace Go.Proofs.YtgalfohobgjelaaGreatDoor
open Go.RowKit Go.Shelf
theorem wordsN_snoc (l : List Int) (x : Int) : wordsN (l ++ [x]) = wordsN l ++ [32] ++ Lib.itoa x := by simp [wordsN]
theorem wordsN_len : ∀ (l : List Int), (∀ x ∈ l, In x) → (wordsN l).length ≤ 22 * l.length
  | [], _ => by simp [wordsN]
  | x :: l, h => by
    have h1 := wordsN_len l (fun y hy => h y (by simp [hy]))
    have h2 := itoa_len (h x (by simp)).1 (h x (by simp)).2
    have e : wordsN (x :: l) = (32 :: Lib.itoa x) ++ wordsN l := rfl
    rw [e, List.length_append, List.length_cons, List.length_cons]
    omega
end Go.Proofs.YtgalfohobgjelaaGreatDoor
namespace Go.Proofs.YtgalfohobgjelaaGreatDoor
open Go.RowKit Go.Shelf
/-- Ints behind an address. -/
def IntSl (w : World) (A : Option Addr) (ns : List Int) : Prop := ns = [] ∨ ∃ g o, A = some ⟨g, o, none⟩ ∧ g < w.heap.size ∧ ∀ (j : Nat) (x : Int), ns[j]? = some x → w.cell? ⟨g, o + j, none⟩ = some (.int .i64 x)
theorem IntSl.none_ {w w' : World} {A : Option Addr} {ns : List Int} (h : IntSl w A ns) (ho : Only NoneOf w w') : IntSl w' A ns := by
  rcases h with h | ⟨g, o, hA, h1, h2⟩
  · exact .inl h
  · exact .inr ⟨g, o, hA, Nat.lt_of_lt_of_le h1 ho.size, fun j x hx => ho.cell_some (h2 j x hx) (fun h => h.elim)⟩
structure Bd.Ok (b : Bd) : Prop where
  id : In b.bidder
  qi : ∀ x ∈ b.qc, In x
  pi : ∀ x ∈ b.pc, In x
  qt : b.qt.size ≤ 1000000
  pt : b.pt.size ≤ 1000000
  ql : b.qc.length ≤ 1000000
  pl : b.pc.length ≤ 1000000
abbrev tBid : TypeId := 75
abbrev bdCells (d : Bd) (qA pA : Option Addr) (qk pk : Nat) : Array Value := #[.int .i64 d.bidder, .string d.qt, .slice qA d.qc.length qk, .string d.pt, .slice pA d.pc.length pk]
end Go.Proofs.YtgalfohobgjelaaGreatDoor
namespace Go.Proofs.YtgalfohobgjelaaGreatDoor
open Go.RowKit Go.Shelf
set_option maxRecDepth 100000 in
set_option maxHeartbeats 1000000 in
theorem rdec16_any (n : Int) (hn : In n) (w : World) : Calls Tryz.prog 68 #[.int .i64 n] w (RetStr (Lib.itoa n) w) := by
  obtain ⟨n0, n1⟩ := hn
  by_cases hz : n = 0
  · subst hz
    go_enter Tryz.func68, Tryz.ntmps68
    go_wp2_with fail
    go_ret
    exact RetStr.mk (by decide +kernel) (Only.refl _ _)
  · obtain ⟨m, em⟩ : ∃ m, m = n.natAbs := ⟨_, rfl⟩
    obtain ⟨sg, esg⟩ : ∃ sg : Bool, sg = decide (n < 0) := ⟨_, rfl⟩
    have hnm : n = if sg then -(m : Int) else (m : Int) := by
      rw [esg, em]; simp only [decide_eq_true_eq]; split <;> omega
    have hm : m < 18446744073709551616 := by omega
    have hi : Lib.itoa n = if sg then 45 :: Lib.decDigits m else Lib.decDigits m := by
      unfold Lib.itoa
      rw [esg, em]; simp only [decide_eq_true_eq]; split
      · rfl
      · rw [show n.toNat = n.natAbs by omega]
    have HI := Lib.hid hi
    have HNM := Lib.hid hnm
    have ESG := Lib.hid esg
    have EM := Lib.hid em
    clear hi hnm esg em
    go_enter Tryz.func68, Tryz.ntmps68
    go_wp2_with fail
    rw [show (n == 0) = false by simpa using hz]
    go_loopw [3, 4] (fun o v wr => DecR m sg w o v wr) (fun _ v _ => (intOf v).natAbs)
    case atStart =>
      have := ESG.out
      have h2 := HNM.out
      refine ⟨_, m, rfl, by rw [← h2], by have := EM.out; omega, fun hf => by rw [hf] at h2; simp at h2; omega, ⟨fun _ => by simp, fun h0 => by have := EM.out; omega⟩, Only.refl _ _⟩
    case round =>
      obtain ⟨t, u, rfl, rfl, hu, hu2, hd, ho⟩ := hrel
      have hl := hd.len hm
      have hts : t.size ≤ 20 := by rw [size_list]; exact hl
      obtain ⟨v, ev⟩ : ∃ v, v = if sg then -(u : Int) else (u : Int) := ⟨_, rfl⟩
      rw [← ev]
      have hv : v = (u : Int) ∨ v = -(u : Int) := by rw [ev]; split <;> simp
      have hvb : -9223372036854775808 ≤ v ∧ v ≤ 9223372036854775807 := by
        rw [ev]; split
        · omega
        · have := hu2 (by simpa using ‹¬sg = true›); omega
      obtain ⟨hv0, hv1⟩ := hvb
      by_cases h0 : u = 0
      · have v0 : v = 0 := by omega
        have hdd := hd.2 h0
        have HD := Lib.hid hdd
        have HO := Lib.hid ho
        clear ev hv hd hdd ho hu2
        subst v0
        cases hsg : sg with
        | false =>
          have hn0 : ¬ n < 0 := by have := ESG.out; rw [hsg] at this; simpa using this.symm
          rw [hsg] at HI
          go_wp2_with fail
          go_ret
          refine RetStr.mk ?_ HO.out
          rw [HI.out, HD.out]; rfl
        | true =>
          have hn0 : n < 0 := by have := ESG.out; rw [hsg] at this; simpa using this.symm
          have hq : ¬ 9223372036854775807 < 1 + t.size := by omega
          rw [hsg] at HI
          go_wp2_with fail
          go_ret
          refine RetStr.mk ?_ HO.out
          rw [HI.out, HD.out, ByteArray.data_append, Array.toList_append]; rfl
      · obtain ⟨e, em1, he⟩ := tm10 v u hv
        have htd := td10 v u sg ev
        have hst := hd.step h0
        have hu8 := u8_48 (u % 10) (by omega)
        obtain ⟨d, ed⟩ : ∃ d, d = u % 10 := ⟨_, rfl⟩
        obtain ⟨q, eq⟩ : ∃ q, q = u / 10 := ⟨_, rfl⟩
        rw [← ed] at he hst hu8
        rw [← eq] at htd hst
        obtain ⟨z, ez⟩ : ∃ z, z = v.tdiv 10 := ⟨_, rfl⟩
        have hzb : -9223372036854775808 ≤ z ∧ z ≤ 9223372036854775807 := by rw [ez, htd]; split <;> omega
        obtain ⟨c, ec⟩ : ∃ c, c = UInt8.ofNat (48 + d) := ⟨_, rfl⟩
        rw [← ec] at hst hu8
        have w1 : IntKind.i64.wrap (v.tmod 10) = e := by rw [em1]; exact IntWalk.i64_in _ (by omega)
        have w2 : IntKind.i64.wrap (v.tdiv 10) = z := by rw [← ez]; exact IntWalk.i64_in _ hzb
        have w3 : IntKind.i64.wrap (48 + (d : Int)) = 48 + (d : Int) := IntWalk.i64_in _ (by omega)
        have hnv : ¬ v = 0 := by omega
        have hq : ¬ 9223372036854775807 < 1 + t.size := by omega
        have hu8' : (48 + (d : Int)) % 256 = (c.toNat : Int) := by rw [← hu8]; simp [IntKind.wrap, IntKind.bits, IntKind.signed]
        have ez' := ez.symm
        have w5 : IntKind.i64.wrap z = z := IntWalk.i64_in _ hzb
        have hby : BytesAt (wr.alloc (.cells #[.int .u8 (c.toNat : Int)] 5)) wr.heap.size 0 [c] := blk_bytes (Blk.new wr 5 #[bv c])
        have HBY := Lib.hid hby
        have HO := Lib.hid ho
        have HST := Lib.hid hst
        have HTD := Lib.hid (ez.trans htd)
        have HU2 := Lib.hid hu2
        have EQ := Lib.hid eq
        have EV := Lib.hid ev
        have hms : (intOf (.int .i64 z)).natAbs < (intOf (.int .i64 v)).natAbs := by
          show z.natAbs < v.natAbs
          rw [ez, htd, ev, eq]
          split <;> omega
        have HMS := Lib.hid hms
        have tok : True := trivial
        have L1 : (⟨[c].toArray⟩ : ByteArray).size = 1 := rfl
        have fin : ∀ W, Only NoneOf w W → DecR m sg w (.string ((⟨[c].toArray⟩ : ByteArray) ++ t)) (.int .i64 z) W := fun W hW => by
          refine ⟨_, q, rfl, by rw [HTD.out], by have := EQ.out; omega, fun h => by have := EQ.out; have := HU2.out h; omega, ?_, hW⟩
          rw [ByteArray.data_append, Array.toList_append]
          exact HST.out
        have FIN := Lib.hid fin
        by_cases hneg : e < 0
        · have w4 : IntKind.i64.wrap (-e) = (d : Int) := by rw [show -e = (d : Int) by omega]; exact IntWalk.i64_in _ (by omega)
          clear hd ho hst htd ec ed eq hby hu2 ev hms fin hv he hl ez hzb
          go_wp2_with (have _t := tok; refine wpList_convert_back rfl 22 9 5 (.tmp 22) rfl wr.heap.size 0 1 1 rfl [c] rfl HBY.out Tryz.underlying22 Tryz.underlying5 Tryz.underlying9 ?_; clear tok _t)
          go_roundw
          case rel => first | exact FIN.out _ (HO.out.alloc _) | exact ⟨_, _, _, _, _, _, _, _, _, _, _, _, _, _, _, _, _, _, _, _, FIN.out _ (HO.out.alloc _), rfl⟩
          case measure => exact HMS.out
        · obtain rfl : e = (d : Int) := by omega
          clear hd ho hst htd ec ed eq hby hu2 ev hms fin hv he hl ez hzb
          go_wp2_with (have _t := tok; refine wpList_convert_back rfl 22 9 5 (.tmp 22) rfl wr.heap.size 0 1 1 rfl [c] rfl HBY.out Tryz.underlying22 Tryz.underlying5 Tryz.underlying9 ?_; clear tok _t)
          go_roundw
          case rel => first | exact FIN.out _ (HO.out.alloc _) | exact ⟨_, _, _, _, _, _, _, _, _, _, _, _, _, _, _, _, _, _, _, _, FIN.out _ (HO.out.alloc _), rfl⟩
          case measure => exact HMS.out
set_option maxRecDepth 100000 in
set_option maxHeartbeats 2000000 in
theorem rhex16_any (t : ByteArray) (hl : t.size ≤ 1000000) (w : World) : Calls Tryz.prog 69 #[.string t] w (RetStr (hexL t.data.toList) w) := by
  obtain ⟨h, eh⟩ : ∃ h, h = t.data.toList := ⟨_, rfl⟩
  have hlen : h.length = t.size := by rw [eh, size_list]
  have HL := Lib.hid hl
  have HLEN := Lib.hid hlen
  have EH := Lib.hid eh
  rw [← eh]
  clear hl hlen eh
  go_enter Tryz.func69, Tryz.ntmps69
  go_wp2_with fail
  go_loopw [4, 5] (fun v i wr => ∃ (k : Nat) (s : ByteArray), i = .int .i64 k ∧ v = .string s ∧ k ≤ t.size ∧ s.data.toList = hexL (h.take k) ∧ Only NoneOf w wr) (fun _ i _ => t.size - (intOf i).toNat)
  case atStart => exact ⟨0, ⟨#[]⟩, rfl, rfl, by omega, rfl, Only.refl _ _⟩
  case round =>
    obtain ⟨k, s, rfl, rfl, hk, hs, ho⟩ := hrel
    by_cases hlt : k < t.size
    · obtain ⟨x, hx⟩ : ∃ x, h[k]? = some x := ⟨_, List.getElem?_eq_getElem (by have := HLEN.out; omega)⟩
      have hix : t.data[k]? = some x := by have e := EH.out; rw [e] at hx; simpa using hx
      have hts : t[k]'hlt = x := by
        have e : t.data[k]? = some (t[k]'hlt) := Array.getElem?_eq_getElem _
        rw [hix] at e
        exact (Option.some.inj e).symm
      have hx256 := x.toNat_lt
      have ik : (k : Int) < t.size := by omega
      have hk6 : k ≤ 1000000 := by have := HL.out; omega
      have hsz : s.size ≤ 2000000 := by rw [size_list, hs, hexL_len, List.length_take]; omega
      have hs1 : s.size + 1 ≤ 9223372036854775807 := by omega
      have hs2 : s.size + 1 + 1 ≤ 9223372036854775807 := by omega
      have hnx : hexL (h.take (k + 1)) = hexL (h.take k) ++ [hexC (x.toNat / 16)] ++ [hexC (x.toNat % 16)] := by
        rw [List.take_add_one, hx, Option.toList_some, hexL_snoc]
      have HOK := Lib.hid ho
      have HSK := Lib.hid hs
      have HNX := Lib.hid hnx
      have HX := Lib.hid hx256
      clear ho hs hnx hx hix
      go_upto_region 6 with (fail)
      go_region
      go_wp2_with fail
      go_roundw
      case rel =>
        refine ⟨k + 1, _, by go_num, rfl, by omega, ?_, HOK.out.drew⟩
        rw [HNX.out, ByteArray.data_append, ByteArray.data_append, Array.toList_append, Array.toList_append, HSK.out, hexC_ext _ (by omega), hexC_ext _ (by omega)]
      case measure => simp [intOf]; omega
    · have ik : ¬ (k : Int) < t.size := by omega
      have HOK := Lib.hid ho
      have hall : h.take k = h := List.take_of_length_le (by rw [HLEN.out]; omega)
      rw [hall] at hs
      have HSK := Lib.hid hs
      clear ho hs hall
      go_wp2_with fail
      refine ⟨rfl, _, results_tmp rfl _ _ _, ?_⟩
      exact RetStr.mk HSK.out HOK.out
end Go.Proofs.YtgalfohobgjelaaGreatDoor
namespace Go.Proofs.YtgalfohobgjelaaGreatDoor
open Go.RowKit Go.Shelf
/-- What the loops of the reference keep. -/
structure RefK (w : World) (R : Nat) (cs : Array Value) (W : World) : Prop where
  box : Blk W R tBid cs
  only : Only NoneOf w W
theorem RefK.none_ {w : World} {R : Nat} {cs : Array Value} {W W' : World} (h : RefK w R cs W) (ho : Only NoneOf W W') : RefK w R cs W' := ⟨h.box.only ho (fun h => h.elim), h.only.trans ho⟩
theorem wordsN_take {l : List Int} {k : Nat} (h : ∀ x ∈ l, In x) (hl : l.length ≤ 1000000) : (wordsN (l.take k)).length ≤ 22000000 := by
  have := wordsN_len (l.take k) (fun x hx => h x (List.mem_of_mem_take hx))
  rw [List.length_take] at this
  omega
set_option maxRecDepth 100000 in
set_option maxHeartbeats 2000000 in
theorem rencode16_any (d : Bd) (hd : d.Ok) {qA pA : Option Addr} {qk pk : Nat} {w : World} (hq : IntSl w qA d.qc) (hp : IntSl w pA d.pc) :
    Calls Tryz.prog 37 #[.agg (bdCells d qA pA qk pk)] w (RetStr (encB d) w) := by
  obtain ⟨hid, hqi, hpi, hqt, hpt, hql, hpl⟩ := hd
  obtain ⟨R, eR⟩ : ∃ R, R = w.heap.size := ⟨_, rfl⟩
  have hk : RefK w R (bdCells d qA pA qk pk) (w.alloc (.cells (bdCells d qA pA qk pk) tBid)) := ⟨by rw [eR]; exact Blk.new w _ _, (Only.refl _ _).alloc _⟩
  have HK := Lib.hid hk
  have HQ := Lib.hid hq
  have HP := Lib.hid hp
  have HQI := Lib.hid hqi
  have HPI := Lib.hid hpi
  have HER := Lib.hid eR
  obtain ⟨T1, eT1⟩ : ∃ T, T = wBid ++ [32] ++ Lib.itoa d.bidder ++ [10] ++ wQuality := ⟨_, rfl⟩
  obtain ⟨T2, eT2⟩ : ∃ T, T = T1 ++ wordsN d.qc ++ [10] ++ hexL d.qt.data.toList ++ [10] ++ wPrice := ⟨_, rfl⟩
  have li := itoa_len hid.1 hid.2
  have lT1 : T1.length ≤ 33 := by
    rw [eT1]
    have q1 : wBid.length = 3 := rfl
    have q2 : wQuality.length = 7 := rfl
    simp only [List.length_append, List.length_singleton]
    omega
  have lw1 := wordsN_take (k := d.qc.length) hqi hql
  rw [List.take_length] at lw1
  have lT2 : T2.length ≤ 24001000 := by
    rw [eT2]
    have q3 : wPrice.length = 5 := rfl
    simp only [List.length_append, List.length_singleton, hexL_len, ← size_list]
    omega
  have HT1 := Lib.hid eT1
  have HT2 := Lib.hid eT2
  clear hk hq hp hqi hpi eR eT1 eT2
  go_enter Tryz.func37, Tryz.ntmps37
  go_wp2_with fail
  rw [← HER.out]
  refine (rdec16_any d.bidder hid _).mono ?_
  rintro e w1 ⟨t1, rfl, ht1, ho1⟩
  have K1 := Lib.hid (HK.out.none_ ho1)
  have l1 : t1.size ≤ 21 := by rw [size_list, ht1]; exact li
  have a1 : ¬ 9223372036854775807 < 4 + t1.size := by omega
  have a2 : ¬ 9223372036854775807 < 4 + t1.size + 8 := by omega
  have HT := Lib.hid ht1
  clear ho1 ht1
  go_wp2_with fail
  go_loopw [3, 4] (fun v i wr => ∃ (k : Nat) (s : ByteArray), i = .int .i64 k ∧ v = .string s ∧ k ≤ d.qc.length ∧ s.data.toList = T1 ++ wordsN (d.qc.take k) ∧ RefK w R (bdCells d qA pA qk pk) wr) (fun _ i _ => d.qc.length - (intOf i).toNat)
  case atStart => exact ⟨0, _, rfl, rfl, by omega, by rw [HT1.out]; simp [HT.out, wordsN, wBid, wQuality], K1.out⟩
  case round =>
    obtain ⟨k, s, rfl, rfl, hk, hs, hK⟩ := hrel
    have hsz : s.size ≤ 22000033 := by
      have := wordsN_take (k := k) HQI.out hql
      rw [size_list, hs, List.length_append]; omega
    have c2 := hK.box.cell 2
    simp only [List.getElem?_toArray, List.getElem?_cons_zero, List.getElem?_cons_succ] at c2
    have HS := Lib.hid hs
    have HKK := Lib.hid hK
    clear hs hK
    by_cases hlt : k < d.qc.length
    · obtain ⟨x, hx⟩ : ∃ x, d.qc[k]? = some x := ⟨_, List.getElem?_eq_getElem hlt⟩
      have hxi := HQI.out x (List.mem_of_getElem? hx)
      obtain ⟨g, o, rfl, hc⟩ : ∃ g o, qA = some ⟨g, o, none⟩ ∧ wr.cell? ⟨g, o + k, none⟩ = some (.int .i64 x) := by
        rcases HQ.out.none_ HKK.out.only with h | ⟨g, o, e, _, hc⟩
        · rw [h] at hlt; simp at hlt
        · exact ⟨g, o, e, hc k x hx⟩
      have hnx : wordsN (d.qc.take (k + 1)) = wordsN (d.qc.take k) ++ [32] ++ Lib.itoa x := by rw [List.take_add_one, hx, Option.toList_some, wordsN_snoc]
      have ik : (k : Int) < d.qc.length := by omega
      have HNX := Lib.hid hnx
      have a3 : ¬ 9223372036854775807 < s.size + 1 := by omega
      clear hnx hx
      go_wp2_with fail
      refine (rdec16_any x hxi wr).mono ?_
      rintro e w3 ⟨t3, rfl, ht3, ho3⟩
      have K3 := Lib.hid (HKK.out.none_ ho3)
      have l3 : t3.size ≤ 21 := by rw [size_list, ht3]; exact itoa_len hxi.1 hxi.2
      have a4 : ¬ 9223372036854775807 < s.size + 1 + t3.size := by omega
      have HT3 := Lib.hid ht3
      clear ho3 ht3
      go_wp2_with fail
      go_roundw
      case rel => exact ⟨k + 1, _, by go_num, rfl, by omega, by rw [HNX.out]; simp [HS.out, HT3.out], K3.out⟩
      case measure => simp [intOf]; omega
    · have hall : d.qc.take k = d.qc := List.take_of_length_le (by omega)
      have ik : ¬ (k : Int) < d.qc.length := by omega
      have hs2 := HS.out
      rw [hall] at hs2
      have HS2 := Lib.hid hs2
      have c1 := HKK.out.box.cell 1
      simp only [List.getElem?_toArray, List.getElem?_cons_zero, List.getElem?_cons_succ] at c1
      have a3 : ¬ 9223372036854775807 < s.size + 1 := by omega
      clear hall hs2 HS
      go_wp2_with fail
      refine (rhex16_any d.qt hqt wr).mono ?_
      rintro e w3 ⟨t3, rfl, ht3, ho3⟩
      have K3 := Lib.hid (HKK.out.none_ ho3)
      have l3 : t3.size ≤ 2000000 := by rw [size_list, ht3, hexL_len, ← size_list]; omega
      have a4 : ¬ 9223372036854775807 < s.size + 1 + t3.size := by omega
      have a5 : ¬ 9223372036854775807 < s.size + 1 + t3.size + 6 := by omega
      have HT3 := Lib.hid ht3
      clear ho3 ht3 c1 c2
      go_wp2_with fail
      go_loopw [3, 5] (fun v i wr => ∃ (k : Nat) (s : ByteArray), i = .int .i64 k ∧ v = .string s ∧ k ≤ d.pc.length ∧ s.data.toList = T2 ++ wordsN (d.pc.take k) ∧ RefK w R (bdCells d qA pA qk pk) wr) (fun _ i _ => d.pc.length - (intOf i).toNat)
      case atStart => exact ⟨0, _, rfl, rfl, by omega, by rw [HT2.out]; simp [HT3.out, HS2.out, wordsN, wPrice], K3.out⟩
      case round =>
        clear HKK K3 HS2 hsz a3 a4 a5 l3 HT3 ik K1 HK
        obtain ⟨k, s, rfl, rfl, hk, hs, hK⟩ := hrel
        have hsz : s.size ≤ 46001000 := by
          have := wordsN_take (k := k) HPI.out hpl
          rw [size_list, hs, List.length_append]; omega
        have c4 := hK.box.cell 4
        simp only [List.getElem?_toArray, List.getElem?_cons_zero, List.getElem?_cons_succ] at c4
        have HS := Lib.hid hs
        have HKK := Lib.hid hK
        have a3 : ¬ 9223372036854775807 < s.size + 1 := by omega
        clear hs hK
        by_cases hlt : k < d.pc.length
        · obtain ⟨x, hx⟩ : ∃ x, d.pc[k]? = some x := ⟨_, List.getElem?_eq_getElem hlt⟩
          have hxi := HPI.out x (List.mem_of_getElem? hx)
          obtain ⟨g, o, rfl, hc⟩ : ∃ g o, pA = some ⟨g, o, none⟩ ∧ wr.cell? ⟨g, o + k, none⟩ = some (.int .i64 x) := by
            rcases HP.out.none_ HKK.out.only with h | ⟨g, o, e, _, hc⟩
            · rw [h] at hlt; simp at hlt
            · exact ⟨g, o, e, hc k x hx⟩
          have hnx : wordsN (d.pc.take (k + 1)) = wordsN (d.pc.take k) ++ [32] ++ Lib.itoa x := by rw [List.take_add_one, hx, Option.toList_some, wordsN_snoc]
          have ik : (k : Int) < d.pc.length := by omega
          have HNX := Lib.hid hnx
          clear hnx hx
          go_wp2_with fail
          refine (rdec16_any x hxi wr).mono ?_
          rintro e w3 ⟨t3, rfl, ht3, ho3⟩
          have K3 := Lib.hid (HKK.out.none_ ho3)
          have l3 : t3.size ≤ 21 := by rw [size_list, ht3]; exact itoa_len hxi.1 hxi.2
          have a4 : ¬ 9223372036854775807 < s.size + 1 + t3.size := by omega
          have HT3 := Lib.hid ht3
          clear ho3 ht3
          go_wp2_with fail
          go_roundw
          case rel => exact ⟨k + 1, _, by go_num, rfl, by omega, by rw [HNX.out]; simp [HS.out, HT3.out], K3.out⟩
          case measure => simp [intOf]; omega
        · have hall : d.pc.take k = d.pc := List.take_of_length_le (by omega)
          have ik : ¬ (k : Int) < d.pc.length := by omega
          have hs2 := HS.out
          rw [hall] at hs2
          have HS2 := Lib.hid hs2
          have c3 := HKK.out.box.cell 3
          simp only [List.getElem?_toArray, List.getElem?_cons_zero, List.getElem?_cons_succ] at c3
          clear hall hs2 HS
          go_wp2_with fail
          refine (rhex16_any d.pt hpt wr).mono ?_
          rintro e w3 ⟨t3, rfl, ht3, ho3⟩
          have K3 := Lib.hid (HKK.out.none_ ho3)
          have l3 : t3.size ≤ 2000000 := by rw [size_list, ht3, hexL_len, ← size_list]; omega
          have a4 : ¬ 9223372036854775807 < s.size + 1 + t3.size := by omega
          have a5 : ¬ 9223372036854775807 < s.size + 1 + t3.size + 1 := by omega
          have HT3 := Lib.hid ht3
          clear ho3 ht3 c3 c4
          go_wp2_with fail
          refine ⟨rfl, _, results_tmp rfl _ _ _, ?_⟩
          refine RetStr.mk ?_ K3.out.only
          have e2 := HS2.out
          have e3 := HT3.out
          simp only [ByteArray.data_append, Array.toList_append, e2, e3]
          rw [HT2.out, HT1.out]
          have i1 : wordsN [d.bidder] = 32 :: Lib.itoa d.bidder := by simp [wordsN]
          have i0 : wordsN [] = [] := rfl
          unfold encB lineL
          rw [i1, i0]
          simp only [List.append_assoc, List.cons_append, List.nil_append, List.append_nil]
end Go.Proofs.YtgalfohobgjelaaGreatDoor
namespace Go.Proofs.YtgalfohobgjelaaGreatDoor
open Go.RowKit Go.Shelf
theorem mod04_any (n m : Int) (_hn : In n) (hm : 0 < m) (hm2 : m ≤ 2000000000000000000) (w : World) : Calls Tryz.prog 16 #[.int .i64 n, .int .i64 m] w fun e w' => e = .returned (.int .i64 (n % m)) ∧ w' = w := by
  obtain ⟨r, er⟩ : ∃ r, r = n.tmod m := ⟨_, rfl⟩
  have hr1 : -m < r ∧ r < m := by
    rw [er]; exact ⟨Int.lt_tmod_of_pos n hm, Int.tmod_lt_of_pos n hm⟩
  have hr2 : n % m = if r < 0 then r + m else r := by
    rw [er, Int.tmod_eq_emod]
    have := Int.emod_nonneg n (show m ≠ 0 by omega)
    have := Int.emod_lt_of_pos n hm
    have hab : (m.natAbs : Int) = m := by omega
    split <;> split <;> omega
  have hr3 : (r + m).tmod m = n % m := by
    rw [Int.tmod_eq_emod_of_nonneg (by omega), hr2]
    split
    · exact Int.emod_eq_of_lt (by omega) (by omega)
    · rw [Int.add_emod_right]; exact Int.emod_eq_of_lt (by omega) (by omega)
  have hr4 : 0 ≤ n % m ∧ n % m < m := ⟨Int.emod_nonneg n (by omega), Int.emod_lt_of_pos n hm⟩
  obtain ⟨g, eg⟩ : ∃ g, g = n % m := ⟨_, rfl⟩
  rw [← eg] at hr3 hr4 ⊢
  have e1 : IntKind.i64.wrap (n.tmod m) = r := by rw [← er]; exact IntWalk.i64_in _ (by omega)
  have e2 : IntKind.i64.wrap (r + m) = r + m := IntWalk.i64_in _ (by omega)
  have e3 : IntKind.i64.wrap ((r + m).tmod m) = g := by rw [hr3]; exact IntWalk.i64_in _ (by omega)
  have e4 : IntKind.i64.wrap r = r := IntWalk.i64_in _ (by omega)
  have e5 : IntKind.i64.wrap g = g := IntWalk.i64_in _ (by omega)
  have e0 : ¬ m = 0 := by omega
  have er' := er.symm
  clear eg er hr2 hr1 hr4 hm hm2
  go_enter Tryz.func16, Tryz.ntmps16
  go_wp2_with fail
  exact ⟨rfl, _, results_tmp rfl _ _ _, rfl, rfl⟩
theorem in4 : In 4 := by unfold In; constructor <;> omega
theorem in60 : In 60 := by unfold In; constructor <;> omega
theorem bidW_ok (n : Int) : (bidW n).Ok := by
  refine ⟨in60, fun x hx => ?_, fun x hx => by simp [bidW] at hx, by show 2 ≤ 1000000; omega, by show 0 ≤ 1000000; omega, by simp [bidW], by simp [bidW]⟩
  simp only [bidW, List.mem_singleton] at hx
  subst hx
  exact in4
set_option maxRecDepth 100000 in
set_option maxHeartbeats 1000000 in
theorem rbid31_any (n : Int) (hn : In n) (w : World) : Calls Tryz.prog 31 #[.int .i64 n] w fun e w' => ∃ A, e = .returned (.agg (bdCells (bidW n) A none 1 0)) ∧ IntSl w' A [4] ∧ Only NoneOf w w' := by
  have hmd : ∀ W, Calls Tryz.prog 16 #[.int .i64 n, .int .i64 4] W fun e w' => e = .returned (.int .i64 (n % 4)) ∧ w' = W := fun W => mod04_any n 4 hn (by omega) (by omega) W
  obtain ⟨q, eq⟩ : ∃ q : Nat, q = (n % 4).toNat := ⟨_, rfl⟩
  have hq : n % 4 = (q : Int) := by omega
  have hq4 : q < 4 := by omega
  rw [hq] at hmd
  obtain ⟨c, ec⟩ : ∃ c, c = UInt8.ofNat (97 + q) := ⟨_, rfl⟩
  have hc : (c.toNat : Int) = 97 + (q : Int) := by rw [ec]; simp [UInt8.toNat_ofNat]; omega
  have hqt : (bidW n).qt = ⟨#[113]⟩ ++ ⟨#[c]⟩ := by
    show (⟨#[113, UInt8.ofNat (97 + (n % 4).toNat)]⟩ : ByteArray) = _
    rw [← eq, ← ec]; rfl
  have w1 : IntKind.i64.wrap (97 + (q : Int)) = (c.toNat : Int) := by rw [← hc]; exact IntWalk.i64_in _ (by have := c.toNat_lt; omega)
  have w2 : IntKind.u8.wrap (c.toNat : Int) = (c.toNat : Int) := by have := c.toNat_lt; rw [IntKind.wrap_u8]; omega
  have w3 : (c.toNat : Int) % 256 = (c.toNat : Int) := by have := c.toNat_lt; omega
  have L1 : (⟨[c].toArray⟩ : ByteArray).size = 1 := rfl
  have HMD := Lib.hid hmd
  have HQT := Lib.hid hqt
  unfold bdCells
  rw [hqt]
  clear hmd hq eq hc ec hqt
  have tok : True := trivial
  have hby : BytesAt ((w.alloc (.cells #[.int .i64 0, .string ⟨#[]⟩, .slice none 0 0, .string ⟨#[]⟩, .slice none 0 0] tBid)).alloc (.cells #[.int .u8 (c.toNat : Int)] 5)) (w.heap.size + 1) 0 [c] := by
    have h := blk_bytes (Blk.new (w.alloc (.cells #[.int .i64 0, .string ⟨#[]⟩, .slice none 0 0, .string ⟨#[]⟩, .slice none 0 0] tBid)) 5 ([c].map bv).toArray)
    rw [World.size_alloc] at h
    exact h
  have HBY := Lib.hid hby
  clear hby
  go_enter Tryz.func31, Tryz.ntmps31
  go_wp2_with fail
  refine (HMD.out _).mono ?_
  rintro e1 v1 ⟨rfl, rfl⟩
  go_wp2_with (have _t := tok; refine wpList_convert_back rfl 22 9 5 (.tmp 7) rfl (w.heap.size + 1) 0 1 1 rfl [c] rfl HBY.out Tryz.underlying22 Tryz.underlying5 Tryz.underlying9 ?_; clear tok _t)
  have hinf : (Tryz.prog.info? tBid).map (·.size) = some 5 := by kernel_rfl
  refine bodyPost_ret (v := .agg #[.int .i64 60, .string ((⟨#[113]⟩ : ByteArray) ++ ⟨#[c]⟩), .slice (some ⟨w.heap.size + 1 + 1, 0, none⟩) 1 1, .string ⟨#[]⟩, .slice none 0 0]) (results_blk rfl rfl (((Blk.new w _ _).alloc _).alloc _) Tryz.underlying75 rfl (by simpa using hinf)) rfl ⟨some ⟨w.heap.size + 1 + 1, 0, none⟩, rfl, ?_, (((Only.refl _ _).alloc _).alloc _).alloc _⟩
  refine .inr ⟨w.heap.size + 1 + 1, 0, rfl, by simp, fun j x hx => ?_⟩
  match j, hx with
  | 0, hx =>
    simp only [List.getElem?_cons_zero, Option.some.injEq] at hx
    subst hx
    have h := Blk.new ((w.alloc (.cells #[.int .i64 60, .string ((⟨#[113]⟩ : ByteArray) ++ ⟨#[c]⟩), .slice (some ⟨w.heap.size + 1 + 1, 0, none⟩) 1 1, .string ⟨#[]⟩, .slice none 0 0] tBid)).alloc (.cells #[.int .u8 (c.toNat : Int)] 5)) 3 #[.int .i64 4]
    rw [World.size_alloc, World.size_alloc] at h
    exact h.cell 0
end Go.Proofs.YtgalfohobgjelaaGreatDoor
