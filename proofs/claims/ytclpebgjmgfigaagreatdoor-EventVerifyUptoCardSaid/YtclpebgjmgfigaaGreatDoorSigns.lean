/- What is proved here: the law on signed events answers true. Conditions: the library's table reads as its initialiser lays it; name and text are short. -/
import Derived.Test.YtclpebgjmgfigaaGreatDoorPers
import Derived.Test.YtclpebgjmgfigaaGreatDoorSgE
import Derived.Test.YtclpebgjmgfigaaGreatDoorLnk
import Derived.Test.YtclpebgjmgfigaaGreatDoorEqE
import Derived.Test.YtclpebgjmgfigaaGreatDoorEvK
import Derived.Laws.Bits128
namespace Go.Proofs.YtclpebgjmgfigaaGreatDoor
open Go.RowKit Go.Shelf
theorem and_3 (n : Int) : bits .and .i64 n 3 = n % 4 := by
  have h3 : (BitVec.ofInt 64 3).toNat = 2 ^ 2 - 1 := by decide
  have key : (BitVec.ofInt 64 n &&& BitVec.ofInt 64 3).toNat = (n % ((2 ^ 64 : Nat) : Int)).toNat % 2 ^ 2 := by
    rw [BitVec.toNat_and, BitVec.toNat_ofInt, h3, Nat.and_two_pow_sub_one_eq_mod]
  show IntKind.i64.wrap ((BitVec.ofInt 64 n &&& BitVec.ofInt 64 3).toNat : Nat) = n % 4
  rw [key, IntKind.wrap_i64]
  omega
theorem and_7 (n : Int) : bits .and .i64 n 7 = n % 8 := by
  have h3 : (BitVec.ofInt 64 7).toNat = 2 ^ 3 - 1 := by decide
  have key : (BitVec.ofInt 64 n &&& BitVec.ofInt 64 7).toNat = (n % ((2 ^ 64 : Nat) : Int)).toNat % 2 ^ 3 := by
    rw [BitVec.toNat_and, BitVec.toNat_ofInt, h3, Nat.and_two_pow_sub_one_eq_mod]
  show IntKind.i64.wrap ((BitVec.ofInt 64 n &&& BitVec.ofInt 64 7).toNat : Nat) = n % 8
  rw [key, IntKind.wrap_i64]
  omega
theorem and_20 (n : Int) : bits .and .i64 n 1048575 = n % 1048576 := by
  have h3 : (BitVec.ofInt 64 1048575).toNat = 2 ^ 20 - 1 := by decide
  have key : (BitVec.ofInt 64 n &&& BitVec.ofInt 64 1048575).toNat = (n % ((2 ^ 64 : Nat) : Int)).toNat % 2 ^ 20 := by
    rw [BitVec.toNat_and, BitVec.toNat_ofInt, h3, Nat.and_two_pow_sub_one_eq_mod]
  show IntKind.i64.wrap ((BitVec.ofInt 64 n &&& BitVec.ofInt 64 1048575).toNat : Nat) = n % 1048576
  rw [key, IntKind.wrap_i64]
  omega
/-- A setup read, under a name that the walk does not open. -/
def stLoad (v : Value) : Sem Value := Instr.loadAt 58 v
theorem stLoad_eq (v : Value) : Instr.loadAt 58 v = stLoad v := rfl
/-- A setup that lies in block U. -/
def StAt (W : World) (U : Nat) (pv : Value) : Prop := Blk W U tSetup #[pv, .int .i64 0, .slice none 0 0, .slice none 0 0, .int .i64 0, .int .i64 0]
theorem st_load {W : World} {U : Nat} {pv : Value} (h : StAt W U pv) : (stLoad (.pointer (some ⟨U, 0, none⟩))).run Tryz.prog W = .ok (.agg #[pv, .int .i64 0, .slice none 0 0, .slice none 0 0, .int .i64 0, .int .i64 0]) W :=
  run_loadAt_mid W U 0 58 [pv, .int .i64 0, .slice none 0 0, .slice none 0 0, .int .i64 0, .int .i64 0] _ (fun j v hj => by rw [Nat.zero_add, Blk.cell h]; simpa using hj) Tryz.underlying58 rfl (by kernel_rfl)
theorem st_store_new (W : World) (A : Option Addr) (n c : Nat) : (stStore (.pointer (some ⟨W.heap.size, 0, none⟩)) (.agg #[.slice A n c, .int .i64 0, .slice none 0 0, .slice none 0 0, .int .i64 0, .int .i64 0])).run Tryz.prog (W.alloc (.cells #[.slice none 0 0, .int .i64 0, .slice none 0 0, .slice none 0 0, .int .i64 0, .int .i64 0] 58)) = .ok () ((W.alloc (.cells #[.slice none 0 0, .int .i64 0, .slice none 0 0, .slice none 0 0, .int .i64 0, .int .i64 0] 58)).setCells W.heap.size 0 [.slice A n c, .int .i64 0, .slice none 0 0, .slice none 0 0, .int .i64 0, .int .i64 0]) :=
  st_store (Blk.new W tSetup _) rfl
theorem st_new (W : World) (A : Option Addr) (n c : Nat) : StAt ((W.alloc (.cells #[.slice none 0 0, .int .i64 0, .slice none 0 0, .slice none 0 0, .int .i64 0, .int .i64 0] 58)).setCells W.heap.size 0 [.slice A n c, .int .i64 0, .slice none 0 0, .slice none 0 0, .int .i64 0, .int .i64 0]) W.heap.size (.slice A n c) :=
  setCells_own (Blk.new W tSetup _) rfl
theorem PerSl.far {w : World} {v : Value} {P : List Pers} (h : PerSl w v P) {c : Nat} (hc : w.heap.size ≤ c) (o : Obj) (n : Nat) (vs : List Value) : PerSl ((w.alloc o).setCells c n vs) v P := by
  obtain ⟨A, cap, hv, h1, h2, h3⟩ := h
  refine ⟨A, cap, hv, h1, h2, fun i p hp => ?_⟩
  obtain ⟨g, o', hA, hg, hr⟩ := h3 i p hp
  refine ⟨g, o', hA, by rw [setCells_size, World.size_alloc]; omega, fun j v hj => ?_⟩
  rw [World.cell?_setCells_out c vs n (w.alloc o) ⟨g, o' + i * 3 + j, none⟩ (fun hb => by simp only at hb; omega)]
  exact ((Only.refl NoneOf w).alloc o).cell_some (hr j v hj) (fun e => e)
theorem pers_in (seed : Int) (n : Nat) : ∀ p ∈ persL seed n, In p.pub := fun p hp => by
  obtain ⟨k, _, rfl⟩ := List.mem_map.1 hp
  have := pub_small (seed + (k : Int))
  exact ⟨by show (_ : Int) ≤ (pub _ : Int); omega, by show (pub _ : Int) ≤ _; omega⟩
/-- An event signed by its author, one of the first four, is verified. -/
theorem ver_signed (s : Int) (e : Ev) (h : 0 ≤ e.who ∧ e.who < 4) : verL (persL s 6) (signE (s + e.who) e) = 0 := by
  have hg : goodB (pub (s + e.who) : Int) (evText e) (gp (nonce (expo (s + e.who)) (evText e)) : Int) (sigS (s + e.who) (evText e) (nonce (expo (s + e.who)) (evText e)) : Int) = true := goodB_true.2 (good_signed (s + e.who) (evText e) _)
  have key : ∀ k : Nat, k < 4 → e.who = (k : Int) → verL (persL s 6) (signE (s + e.who) e) = 0 := by
    intro k hk he
    have hl : persL s 6 = [persAt s 0, persAt s 1, persAt s 2, persAt s 3, persAt s 4, persAt s 5] := rfl
    have h4 : k = 0 ∨ k = 1 ∨ k = 2 ∨ k = 3 := by omega
    have hi : idxN (k : Int) 0 (persL s 6) = some k := by
      rw [hl]
      rcases h4 with rfl | rfl | rfl | rfl <;> simp [idxN, persAt]
    have hp : (persL s 6)[k]? = some (persAt s k) := by
      rw [hl]
      rcases h4 with rfl | rfl | rfl | rfl <;> rfl
    have hw2 : (signE (s + e.who) e).who = (k : Int) := he
    obtain ⟨_, p, h1, _, h2⟩ := verL_some (signE (s + e.who) e) (persL s 6) 0 k (by rw [hw2]; exact hi)
    rw [Nat.sub_zero, hp, Option.some.injEq] at h1
    rw [h2, ← h1, if_pos]
    have h3 : (persAt s k).pub = (pub (s + e.who) : Int) := by rw [he]; rfl
    rw [h3, signE_text]
    exact hg
  exact key e.who.toNat (by omega) (by omega)
theorem sign_again (x y : Int) (e : Ev) : signE x (signE y e) = signE x e := rfl
attribute [local go_sem ↓ high] evStore_eq evLoad_eq stStore_eq stLoad_eq
/-- What the law has laid: its event in block B, the setup in block U; w3 is the world in which the persons were made. -/
structure SiS (w w3 : World) (B U : Nat) (e : Ev) (pv : Value) (P : List Pers) (Z : World) : Prop where
  ev : EvAt Z B e
  st : StAt Z U pv
  sl : PerSl w3 pv P
  on3 : Only NoneOf w3 Z
  only : Only NoneOf w Z
theorem SiS.keep {w w3 Z Z' : World} {B U : Nat} {e : Ev} {pv : Value} {P : List Pers} (h : SiS w w3 B U e pv P Z) (ho : Only NoneOf Z Z') : SiS w w3 B U e pv P Z' :=
  ⟨h.ev.only ho (fun e => e), Blk.only h.st ho (fun e => e), h.sl, h.on3.trans ho, h.only.trans ho⟩
theorem SiS.more {w w3 Z : World} {B U : Nat} {e : Ev} {pv : Value} {P : List Pers} (h : SiS w w3 B U e pv P Z) (o : Obj) (vs : List Value) : SiS w w3 B U e pv P ((Z.alloc o).setCells Z.heap.size 0 vs) :=
  ⟨(h.ev.alloc o).farCells (by have := h.ev.lt; omega) vs 0, (Blk.alloc h.st o).farCells (by have := Blk.lt h.st; omega) vs 0, h.sl, only_setCells (h.on3.alloc o) _ 0 (.inr h.on3.size) vs, only_setCells (h.only.alloc o) _ 0 (.inr h.only.size) vs⟩
theorem SiS.set {w w3 Z : World} {B U : Nat} {e : Ev} {pv : Value} {P : List Pers} (h : SiS w w3 B U e pv P Z) {Y : Nat} (hB : B ≠ Y) (hU : U ≠ Y) (h3 : w3.heap.size ≤ Y) (hw : w.heap.size ≤ Y) (i : Nat) (v : Value) : SiS w w3 B U e pv P (Z.setCell ⟨Y, i, none⟩ v) :=
  ⟨Blk.far (p := ⟨Y, i, none⟩) h.ev hB v, Blk.far (p := ⟨Y, i, none⟩) h.st hU v, h.sl, h.on3.setCell (p := ⟨Y, i, none⟩) (.inr h3) v, h.only.setCell (p := ⟨Y, i, none⟩) (.inr hw) v⟩
/-- What stands before the law's last line: the signed event in block X, the event with its old signature in block Y. -/
structure SgS (w w3 : World) (B U X Y : Nat) (e x : Ev) (pv : Value) (P : List Pers) (Z : World) : Prop where
  si : SiS w w3 B U e pv P Z
  x : EvAt Z X x
  y : EvAt Z Y e
theorem SgS.keep {w w3 Z Z' : World} {B U X Y : Nat} {e x : Ev} {pv : Value} {P : List Pers} (h : SgS w w3 B U X Y e x pv P Z) (ho : Only NoneOf Z Z') : SgS w w3 B U X Y e x pv P Z' :=
  ⟨h.si.keep ho, h.x.only ho (fun e => e), h.y.only ho (fun e => e)⟩
theorem ev_new (Z : World) (f : Ev) (hf : f.prev.length = 32) : EvAt ((Z.alloc (.cells (evC blank0).toArray tEv)).setCells Z.heap.size 0 (evC f)) Z.heap.size f :=
  setCells_own (Blk.new Z tEv (evC blank0).toArray) (by rw [evC_len hf]; rfl)
theorem EvAt.more {Z : World} {X : Nat} {f : Ev} (h : EvAt Z X f) (o : Obj) (vs : List Value) : EvAt ((Z.alloc o).setCells Z.heap.size 0 vs) X f :=
  (Blk.alloc h o).farCells (by have := Blk.lt h; omega) vs 0
set_option maxRecDepth 100000 in
set_option maxHeartbeats 4000000 in
theorem esigns_law (e : Ev) (he : e.Ok) (hb : e.name.size + e.text.size ≤ 1048576) (n : Int) (_n0 : -9223372036854775808 ≤ n) (_n1 : n ≤ 9223372036854775807) (w : World) (hE : Env3 w) : Calls Tryz.prog 8 #[.agg (evC e).toArray, .int .i64 n] w fun e' w' => e' = .returned (.bool true) ∧ Only NoneOf w w' := by
  have hn : e.name.size ≤ 4398046511104 := by omega
  have hx : e.text.size ≤ 4398046511104 := by omega
  obtain ⟨B, eB⟩ : ∃ B, B = w.heap.size := ⟨_, rfl⟩
  have hA : EvAt (w.alloc (.cells (evC e).toArray 29)) B e ∧ Only NoneOf w (w.alloc (.cells (evC e).toArray 29)) := by
    rw [eB]; exact ⟨Blk.new w _ _, (Only.refl _ _).alloc _⟩
  have hwB : w.heap.size ≤ B := by omega
  obtain ⟨who, ewho⟩ : ∃ x : Int, x = e.who % 4 := ⟨_, rfl⟩
  have hwho : 0 ≤ who ∧ who < 4 := by omega
  have kand : bits .and .i64 e.who 3 = who := by rw [and_3, ewho]
  obtain ⟨sd, esd⟩ : ∃ x : Int, x = n % 1048576 := ⟨_, rfl⟩
  have hsd : 0 ≤ sd ∧ sd ≤ 1048575 := by omega
  have kand2 : bits .and .i64 n 1048575 = sd := by rw [and_20, esd]
  obtain ⟨sec, esec⟩ : ∃ x : Int, x = sd + who := ⟨_, rfl⟩
  have kw : IntKind.i64.wrap (sd + who) = sec := by rw [esec]; exact IntWalk.i64_in _ (by omega)
  obtain ⟨e1, ee1⟩ : ∃ x : Ev, x = { e with who := who } := ⟨_, rfl⟩
  have he1 : e1.Ok := by rw [ee1]; exact ⟨he.seq, he.kind, (⟨by omega, by omega⟩ : In who), he.time, he.bidder, he.lot, he.n, he.other, he.sx, he.sy, he.prev, he.r, he.s⟩
  have hn1 : e1.name.size ≤ 4398046511104 := by rw [ee1]; exact hn
  have hx1 : e1.text.size ≤ 4398046511104 := by rw [ee1]; exact hx
  obtain ⟨x, ex⟩ : ∃ f, f = signE sec e1 := ⟨_, rfl⟩
  have hxo : x.Ok := by rw [ex]; exact signE_ok he1 sec
  have hver : verL (persL sd 6) x = 0 := by
    have h1 : e1.who = who := by rw [ee1]
    have h2 := ver_signed sd e1 (by rw [h1]; exact hwho)
    rw [ex, esec, ← h1]
    exact h2
  have hy : ({ ({ x with r := e1.r } : Ev) with s := e1.s } : Ev) = e1 := by rw [ex]; rfl
  have hp : e1.prev.length = 32 := he1.prev
  have hew : e1.who = who := by rw [ee1]
  have hset : (evC e).set 2 (.int .i64 who) = evC e1 := by rw [ee1]; rfl
  have f1 : ∀ W, Calls Tryz.prog 25 #[.int .i64 sec, .agg (evC e1).toArray] W (fun e' w' => e' = .returned (.agg (evC x).toArray) ∧ Only NoneOf W w') → True := fun _ _ => trivial
  have g1 : ∀ W, Tab W → Calls Tryz.prog 25 #[.int .i64 sec, .agg (evC e1).toArray] W (fun e' w' => e' = .returned (.agg (evC x).toArray) ∧ Only NoneOf W w') := fun W ht => by rw [ex]; exact esign_any sec e1 he1 hn1 hx1 W ht
  have g2 : ∀ W, Calls Tryz.prog 27 #[.int .i64 sec, .agg (evC e1).toArray] W (fun e' w' => e' = .returned (.agg (evC x).toArray) ∧ Only NoneOf W w') := fun W => by rw [ex]; exact rsignE_any sec e1 he1 hn1 hx1 W
  obtain ⟨y5, ey5⟩ : ∃ f, f = signE 5 e1 := ⟨_, rfl⟩
  have hy5 : y5.prev.length = 32 := by rw [ey5]; exact (signE_ok he1 5).prev
  have g3 : ∀ W, Tab W → Calls Tryz.prog 25 #[.int .i64 5, .agg (evC e1).toArray] W (fun e' w' => e' = .returned (.agg (evC y5).toArray) ∧ Only NoneOf W w') := fun W ht => by rw [ey5]; exact esign_any 5 e1 he1 hn1 hx1 W ht
  have g4 : ∀ W, Tab W → Calls Tryz.prog 25 #[.int .i64 5, .agg (evC x).toArray] W (fun e' w' => e' = .returned (.agg (evC y5).toArray) ∧ Only NoneOf W w') := fun W ht => by
    have h1 := esign_any 5 x hxo (by rw [ex]; exact hn1) (by rw [ex]; exact hx1) W ht
    rw [ey5]
    rw [ex, sign_again] at h1
    rw [ex]
    exact h1
  have g5 : ∀ (pv : Value) W, PerSl W pv (persL sd 6) → Tab W → Calls Tryz.prog 26 #[.agg #[pv, .int .i64 0, .slice none 0 0, .slice none 0 0, .int .i64 0, .int .i64 0], .agg (evC x).toArray] W (fun e' w' => e' = .returned (.int .i64 0) ∧ Only NoneOf W w') := fun pv W hs ht => by
    rw [← hver]
    exact everify_any (persL sd 6) pv _ _ _ _ _ x hxo (by rw [ex]; exact hn1) (by rw [ex]; exact hx1) W hs (pers_in sd 6) ht
  have z1 := fun W => eql_ev e1 e1 hp hp W
  have z2 := fun W => eql_ev x x hxo.prev hxo.prev W
  have z3 := fun W => eql_ev y5 y5 hy5 hy5 W
  have sm : ∀ f : Ev, sameE f f = true := fun f => sameE_true.2 rfl
  simp only [sm] at z1 z2 z3
  have HA := Lib.hid hA
  have HE := Lib.hid hE
  have HEP := Lib.hid he.prev
  have HP := Lib.hid hp
  have HXO := Lib.hid hxo
  have HY := Lib.hid hy
  have HSET := Lib.hid hset
  have HEW := Lib.hid hew
  have HSD := Lib.hid hsd
  have G1 := Lib.hid g1
  have G2 := Lib.hid g2
  have G3 := Lib.hid g3
  have G4 := Lib.hid g4
  have G5 := Lib.hid g5
  have HEB := Lib.hid eB
  have Z1 := Lib.hid z1
  have Z2 := Lib.hid z2
  have Z3 := Lib.hid z3
  clear hA hE he hp hxo hy hset hew hsd g1 g2 g3 g4 g5 f1 eB z1 z2 z3 sm hver ex ey5 ee1 esec esd ewho hwho he1 hn1 hx1 hn hx hb hy5
  go_enter Tryz.func8, Tryz.ntmps8
  go_upto_region 1 with (fail)
  rw [← HEB.out]
  refine wp_gen (fun Z => EvAt Z B e ∧ Only NoneOf w Z) HA.out ?_
  rintro Z0 ⟨hE0, hO0⟩
  have HE0 := Lib.hid hE0
  have HO0 := Lib.hid hO0
  clear hE0 hO0 HA
  go_wp2_with fail
  refine (sanity_any Z0 (HE.out.none HO0.out)).mono ?_
  rintro e1' w1 ⟨rfl, ho1⟩
  have hE1 := HE0.out.only ho1 (fun e => e)
  have hO1 := HO0.out.trans ho1
  have c2 : w1.cell? ⟨B, 2, none⟩ = some (.int .i64 e.who) := ev_cell hE1 2
  have f2 := Blk.frozen hE1 2
  have hE2 : EvAt (w1.setCell ⟨B, 2, none⟩ (.int .i64 who)) B e1 := ev_set hE1 HSET.out
  have hO2 := hO1.setCell (p := ⟨B, 2, none⟩) (.inr hwB) (.int .i64 who)
  have HE2 := Lib.hid hE2
  have HO2 := Lib.hid hO2
  clear hE1 hO1 hE2 hO2 ho1 HE0 HO0
  go_upto_region 3 with (fail)
  refine wp_gen (fun Z => EvAt Z B e1 ∧ Only NoneOf w Z) ⟨HE2.out, HO2.out⟩ ?_
  rintro Z2' ⟨hE3, hO3⟩
  have HE3 := Lib.hid hE3
  have HO3 := Lib.hid hO3
  clear hE3 hO3 HE2 HO2 c2 f2
  go_wp2_with fail
  refine (persons_any sd HSD.out.1 HSD.out.2 Z2').mono ?_
  rintro e3 w3 ⟨pv, rfl, hsl, ho3⟩
  obtain ⟨pA, pcap, rfl⟩ : ∃ A c, pv = .slice A 6 c := by
    obtain ⟨A, c, hv, _⟩ := hsl
    rw [persL_len] at hv
    exact ⟨A, c, hv⟩
  have hst := st_store_new w3 pA 6 pcap
  obtain ⟨U, eU⟩ : ∃ U, U = w3.heap.size := ⟨_, rfl⟩
  have hSi : SiS w w3 B U e1 (.slice pA 6 pcap) (persL sd 6) ((w3.alloc (.cells #[.slice none 0 0, .int .i64 0, .slice none 0 0, .slice none 0 0, .int .i64 0, .int .i64 0] 58)).setCells U 0 [.slice pA 6 pcap, .int .i64 0, .slice none 0 0, .slice none 0 0, .int .i64 0, .int .i64 0]) := by
    have h1 := st_new w3 pA 6 pcap
    rw [← eU] at h1
    have hE4 := HE3.out.only ho3 (fun e => e)
    exact ⟨(hE4.alloc _).farCells (by have := hE4.lt; omega) _ 0, h1, hsl, only_setCells ((Only.refl _ _).alloc _) U 0 (.inr (by omega)) _, only_setCells ((HO3.out.trans ho3).alloc _) U 0 (.inr (by rw [eU]; exact (HO3.out.trans ho3).size)) _⟩
  have hUw : w3.heap.size ≤ U ∧ w.heap.size ≤ U := ⟨by omega, by rw [eU]; exact (HO3.out.trans ho3).size⟩
  have HSI := Lib.hid hSi
  have HEU := Lib.hid eU
  clear hSi eU hsl ho3 HE3 HO3
  go_upto_region 4 with (fail)
  rw [← HEU.out]
  refine wp_gen (SiS w w3 B U e1 (.slice pA 6 pcap) (persL sd 6)) HSI.out ?_
  intro W4 h4
  have c2 : W4.cell? ⟨B, 2, none⟩ = some (.int .i64 who) := by
    have := ev_cell h4.ev 2
    rw [← HEW.out]; exact this
  have hl4 := ev_load h4.ev HP.out
  have H4 := Lib.hid h4
  clear h4 HSI hst
  go_wp2_with fail
  refine (G1.out W4 (HE.out.tab.none H4.out.only)).mono ?_
  rintro e4 w4 ⟨rfl, ho4⟩
  have hst4 := ev_store_new w4 HXO.out.prev
  unfold zeroEv at hst4
  dsimp only at hst4
  obtain ⟨X, eX⟩ : ∃ X, X = w4.heap.size := ⟨_, rfl⟩
  have h5 : SiS w w3 B U e1 (.slice pA 6 pcap) (persL sd 6) ((w4.alloc (.cells (evC blank0).toArray tEv)).setCells X 0 (evC x)) ∧ EvAt ((w4.alloc (.cells (evC blank0).toArray tEv)).setCells X 0 (evC x)) X x := by
    rw [eX]
    exact ⟨(H4.out.keep ho4).more _ _, ev_new w4 x HXO.out.prev⟩
  have hXb : B ≠ X ∧ U ≠ X ∧ w3.heap.size ≤ X := by
    have h6 := H4.out.keep ho4
    have a1 := h6.ev.lt
    have a2 := Blk.lt h6.st
    have a3 := h6.on3.size
    exact ⟨by omega, by omega, by omega⟩
  have H5 := Lib.hid h5
  have HEX := Lib.hid eX
  clear h5 eX ho4 H4 c2 hl4
  go_upto_region 5 with (fail)
  rw [← HEX.out]
  refine wp_gen (fun Z => SiS w w3 B U e1 (.slice pA 6 pcap) (persL sd 6) Z ∧ EvAt Z X x) H5.out ?_
  rintro W5 ⟨h6, hX6⟩
  have hl5 := ev_load hX6 HXO.out.prev
  have hst5 := ev_store_new W5 HXO.out.prev
  unfold zeroEv at hst5
  dsimp only at hst5
  obtain ⟨Y, eY⟩ : ∃ Y, Y = W5.heap.size := ⟨_, rfl⟩
  have h7 : SiS w w3 B U e1 (.slice pA 6 pcap) (persL sd 6) ((W5.alloc (.cells (evC blank0).toArray tEv)).setCells Y 0 (evC x)) ∧ EvAt ((W5.alloc (.cells (evC blank0).toArray tEv)).setCells Y 0 (evC x)) X x ∧ EvAt ((W5.alloc (.cells (evC blank0).toArray tEv)).setCells Y 0 (evC x)) Y x := by
    rw [eY]
    exact ⟨h6.more _ _, EvAt.more hX6 _ _, ev_new W5 x HXO.out.prev⟩
  have hYb : B ≠ Y ∧ U ≠ Y ∧ w3.heap.size ≤ Y ∧ w.heap.size ≤ Y ∧ X ≠ Y := by
    have a1 := h6.ev.lt
    have a2 := Blk.lt h6.st
    have a3 := h6.on3.size
    have a4 := h6.only.size
    have a5 := hX6.lt
    exact ⟨by omega, by omega, by omega, by omega, by omega⟩
  have H7 := Lib.hid h7
  have HEY := Lib.hid eY
  clear h7 eY h6 hX6 H5 hst4
  go_upto_region 6 with (fail)
  rw [← HEY.out]
  refine wp_gen (fun Z => SiS w w3 B U e1 (.slice pA 6 pcap) (persL sd 6) Z ∧ EvAt Z X x ∧ EvAt Z Y x) H7.out ?_
  rintro W6 ⟨h8, hX8, hY8⟩
  have b44 := (ev_sig h8.ev HP.out).1
  have b45 := (ev_sig h8.ev HP.out).2
  have y44 := (ev_sig hY8 HXO.out.prev).1
  have y45 := (ev_sig hY8 HXO.out.prev).2
  have f44 := Blk.frozen hY8 44
  have hY9 : EvAt (W6.setCell ⟨Y, 44, none⟩ (.int .i64 e1.r)) Y { x with r := e1.r } := ev_set hY8 (set_sig x HXO.out.prev _).1
  have f45 := Blk.frozen hY9 45
  have hY10 : EvAt ((W6.setCell ⟨Y, 44, none⟩ (.int .i64 e1.r)).setCell ⟨Y, 45, none⟩ (.int .i64 e1.s)) Y e1 := by
    have h1 := ev_set hY9 (set_sig { x with r := e1.r } HXO.out.prev e1.s).2
    rw [HY.out] at h1
    exact h1
  have h10 := (h8.set hYb.1 hYb.2.1 hYb.2.2.1 hYb.2.2.2.1 44 (.int .i64 e1.r)).set hYb.1 hYb.2.1 hYb.2.2.1 hYb.2.2.2.1 45 (.int .i64 e1.s)
  have hX10 := Blk.far (p := ⟨Y, 45, none⟩) (Blk.far (p := ⟨Y, 44, none⟩) hX8 hYb.2.2.2.2 (.int .i64 e1.r)) hYb.2.2.2.2 (.int .i64 e1.s)
  have H10 := Lib.hid (And.intro h10 (And.intro hX10 hY10))
  clear h8 hX8 hY8 hY9 hY10 h10 hX10 H7 hl5 hst5
  go_upto_region 7 with (fail)
  refine wp_gen (fun Z => SiS w w3 B U e1 (.slice pA 6 pcap) (persL sd 6) Z ∧ EvAt Z X x ∧ EvAt Z Y e1) H10.out ?_
  intro W7 h11
  clear b44 b45 y44 y45 f44 f45 H10
  have hS : SgS w w3 B U X Y e1 x (.slice pA 6 pcap) (persL sd 6) W7.drew := ⟨h11.1.keep (Only.refl _ _).drew, h11.2.1.only (Only.refl NoneOf _).drew (fun e => e), h11.2.2.only (Only.refl NoneOf _).drew (fun e => e)⟩
  have l1 : ∀ W, SgS w w3 B U X Y e1 x (.slice pA 6 pcap) (persL sd 6) W → (stLoad (.pointer (some ⟨U, 0, none⟩))).run Tryz.prog W = .ok (.agg #[.slice pA 6 pcap, .int .i64 0, .slice none 0 0, .slice none 0 0, .int .i64 0, .int .i64 0]) W := fun W h => st_load h.si.st
  have l2 : ∀ W, SgS w w3 B U X Y e1 x (.slice pA 6 pcap) (persL sd 6) W → (evLoad (.pointer (some ⟨X, 0, none⟩))).run Tryz.prog W = .ok (.agg (evC x).toArray) W := fun W h => ev_load h.x HXO.out.prev
  have l3 : ∀ W, SgS w w3 B U X Y e1 x (.slice pA 6 pcap) (persL sd 6) W → (evLoad (.pointer (some ⟨Y, 0, none⟩))).run Tryz.prog W = .ok (.agg (evC e1).toArray) W := fun W h => ev_load h.y HP.out
  have l4 : ∀ W, SgS w w3 B U X Y e1 x (.slice pA 6 pcap) (persL sd 6) W → (evLoad (.pointer (some ⟨B, 0, none⟩))).run Tryz.prog W = .ok (.agg (evC e1).toArray) W := fun W h => ev_load h.si.ev HP.out
  have l5 : ∀ W, SgS w w3 B U X Y e1 x (.slice pA 6 pcap) (persL sd 6) W → W.cell? ⟨B, 2, none⟩ = some (.int .i64 who) := fun W h => by
    have := ev_cell h.si.ev 2
    rw [← HEW.out]; exact this
  have HTB : Hid (∀ W, SgS w w3 B U X Y e1 x (.slice pA 6 pcap) (persL sd 6) W → Tab W) := Lib.hid (fun W h => HE.out.tab.none h.si.only)
  have HSL : Hid (∀ W, SgS w w3 B U X Y e1 x (.slice pA 6 pcap) (persL sd 6) W → PerSl W (.slice pA 6 pcap) (persL sd 6)) := Lib.hid (fun W h => h.si.sl.only h.si.on3)
  have HKP : Hid (∀ W W', SgS w w3 B U X Y e1 x (.slice pA 6 pcap) (persL sd 6) W → Only NoneOf W W' → SgS w w3 B U X Y e1 x (.slice pA 6 pcap) (persL sd 6) W') := Lib.hid (fun W W' h ho => h.keep ho)
  have z1 := Z1.out
  have z2 := Z2.out
  have z3 := Z3.out
  clear h11 Z1 Z2 Z3
  go_region_held3 (fun w' => SgS w w3 B U X Y e1 x (.slice pA 6 pcap) (persL sd 6) w') (first | assumption)
    (first
      | (go_at_call 26; refine (G5.out _ _ (HSL.out _ (by assumption)) (HTB.out _ (by assumption))).mono ?_; rintro e2 w2 ⟨rfl, ho2⟩; have hS2 := HKP.out _ _ (by assumption) ho2; clear ho2)
      | (go_at_call 27; refine (G2.out _).mono ?_; rintro e2 w2 ⟨rfl, ho2⟩; have hS2 := HKP.out _ _ (by assumption) ho2; clear ho2)
      | (go_at_call 25; (with_reducible refine (G4.out _ (HTB.out _ (by assumption))).mono ?_); rintro e2 w2 ⟨rfl, ho2⟩; have hS2 := HKP.out _ _ (by assumption) ho2; clear ho2)
      | (go_at_call 25; (with_reducible refine (G3.out _ (HTB.out _ (by assumption))).mono ?_); rintro e2 w2 ⟨rfl, ho2⟩; have hS2 := HKP.out _ _ (by assumption) ho2; clear ho2))
  all_goals
    go_wp2_with fail
    go_ret
    exact ⟨rfl, hS2.si.only⟩
end Go.Proofs.YtclpebgjmgfigaaGreatDoor
