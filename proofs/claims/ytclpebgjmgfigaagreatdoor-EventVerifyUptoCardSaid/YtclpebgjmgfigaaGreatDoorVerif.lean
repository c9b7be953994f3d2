/- What is proved here: the law on verified events answers true. Conditions: the library's table reads as its initialiser lays it; name and text are short. -/
import Derived.Test.YtclpebgjmgfigaaGreatDoorSigns
import Derived.Deep.Cut
namespace Go.Proofs.YtclpebgjmgfigaaGreatDoor
open Go.RowKit Go.Shelf
attribute [local go_sem ↓ high] evStore_eq evLoad_eq stStore_eq stLoad_eq
/-- What stands before the law's last line. -/
structure SvS (w w3 : World) (B U X Y V : Nat) (e x y v : Ev) (pv : Value) (P : List Pers) (Z : World) : Prop where
  si : SiS w w3 B U e pv P Z
  x : EvAt Z X x
  y : EvAt Z Y y
  v : EvAt Z V v
theorem SvS.keep {w w3 Z Z' : World} {B U X Y V : Nat} {e x y v : Ev} {pv : Value} {P : List Pers} (h : SvS w w3 B U X Y V e x y v pv P Z) (ho : Only NoneOf Z Z') : SvS w w3 B U X Y V e x y v pv P Z' :=
  ⟨h.si.keep ho, h.x.only ho (fun e => e), h.y.only ho (fun e => e), h.v.only ho (fun e => e)⟩
/-- What stands in the region that makes the last event. -/
structure Sv7 (w w3 : World) (B U X Y C N0 : Nat) (e x y z : Ev) (q0 q1 q2 : Int) (pv : Value) (P : List Pers) (Z : World) : Prop where
  si : SiS w w3 B U e pv P Z
  q : Blk Z (B + 1) 63 #[.int .i64 q0, .int .i64 q1, .int .i64 q2]
  x : EvAt Z X x
  y : EvAt Z Y y
  c : EvAt Z C z
  n : N0 ≤ Z.heap.size
theorem Sv7.keep {w w3 Z Z' : World} {B U X Y C N0 : Nat} {e x y z : Ev} {q0 q1 q2 : Int} {pv : Value} {P : List Pers} (h : Sv7 w w3 B U X Y C N0 e x y z q0 q1 q2 pv P Z) (ho : Only NoneOf Z Z') : Sv7 w w3 B U X Y C N0 e x y z q0 q1 q2 pv P Z' :=
  ⟨h.si.keep ho, h.q.only ho (fun e => e), h.x.only ho (fun e => e), h.y.only ho (fun e => e), h.c.only ho (fun e => e), Nat.le_trans h.n ho.size⟩
theorem Sv7.far {w w3 Z : World} {B U X Y C N0 : Nat} {e x y z : Ev} {q0 q1 q2 : Int} {pv : Value} {P : List Pers} (hN : B < N0 ∧ U < N0 ∧ X < N0 ∧ Y < N0 ∧ C < N0 ∧ B + 1 < N0 ∧ w.heap.size ≤ N0 ∧ w3.heap.size ≤ N0) (h : Sv7 w w3 B U X Y C N0 e x y z q0 q1 q2 pv P Z) (V : Nat) (hV : N0 ≤ V) (vs : List Value) : Sv7 w w3 B U X Y C N0 e x y z q0 q1 q2 pv P (Z.setCells V 0 vs) :=
  ⟨⟨h.si.ev.farCells (by omega) vs 0, Blk.farCells (by omega) vs 0 h.si.st, h.si.sl, only_setCells h.si.on3 V 0 (.inr (by omega)) vs, only_setCells h.si.only V 0 (.inr (by omega)) vs⟩, h.q.farCells (by omega) vs 0, Blk.farCells (by omega) vs 0 h.x, Blk.farCells (by omega) vs 0 h.y, Blk.farCells (by omega) vs 0 h.c, by rw [setCells_size]; exact h.n⟩
set_option maxRecDepth 100000 in
set_option maxHeartbeats 4000000 in
theorem everif_law (e : Ev) (he : e.Ok) (hb : e.name.size + e.text.size ≤ 1048576) (n : Int) (_n0 : -9223372036854775808 ≤ n) (_n1 : n ≤ 9223372036854775807) (q0 q1 q2 : Int) (i0 : In q0) (i1 : In q1) (_i2 : In q2) (w : World) (hE : Env3 w) : Calls Tryz.prog 9 #[.agg (evC e).toArray, .int .i64 n, .agg #[.int .i64 q0, .int .i64 q1, .int .i64 q2]] w fun e' w' => e' = .returned (.bool true) ∧ Only NoneOf w w' := by
  obtain ⟨B, eB⟩ : ∃ B, B = w.heap.size := ⟨_, rfl⟩
  have hA : EvAt ((w.alloc (.cells (evC e).toArray 29)).alloc (.cells #[.int .i64 q0, .int .i64 q1, .int .i64 q2] 63)) B e ∧ Blk ((w.alloc (.cells (evC e).toArray 29)).alloc (.cells #[.int .i64 q0, .int .i64 q1, .int .i64 q2] 63)) (B + 1) 63 #[.int .i64 q0, .int .i64 q1, .int .i64 q2] ∧ Only NoneOf w ((w.alloc (.cells (evC e).toArray 29)).alloc (.cells #[.int .i64 q0, .int .i64 q1, .int .i64 q2] 63)) := by
    have h1 := Blk.new (w.alloc (.cells (evC e).toArray 29)) 63 #[.int .i64 q0, .int .i64 q1, .int .i64 q2]
    rw [World.size_alloc, ← eB] at h1
    exact ⟨by rw [eB]; exact (Blk.new w _ _).alloc _, h1, ((Only.refl _ _).alloc _).alloc _⟩
  have hwB : w.heap.size ≤ B := by omega
  obtain ⟨who, ewho⟩ : ∃ x : Int, x = e.who % 4 := ⟨_, rfl⟩
  have hwho : 0 ≤ who ∧ who < 4 := by omega
  have kand : bits .and .i64 e.who 3 = who := by rw [and_3, ewho]
  obtain ⟨sd, esd⟩ : ∃ x : Int, x = n % 1048576 := ⟨_, rfl⟩
  have hsd : 0 ≤ sd ∧ sd ≤ 1048575 := by omega
  have kand2 : bits .and .i64 n 1048575 = sd := by rw [and_20, esd]
  obtain ⟨q7, eq7⟩ : ∃ x : Int, x = q2 % 8 := ⟨_, rfl⟩
  have kand3 : bits .and .i64 q2 7 = q7 := by rw [and_7, eq7]
  obtain ⟨s1, es1⟩ : ∃ x : Int, x = sd + q7 := ⟨_, rfl⟩
  have kw1 : IntKind.i64.wrap (sd + q7) = s1 := by rw [es1]; exact IntWalk.i64_in _ (by omega)
  obtain ⟨s2, es2⟩ : ∃ x : Int, x = sd + who := ⟨_, rfl⟩
  have kw2 : IntKind.i64.wrap (sd + who) = s2 := by rw [es2]; exact IntWalk.i64_in _ (by omega)
  obtain ⟨z, ez⟩ : ∃ x : Ev, x = { e with who := who } := ⟨_, rfl⟩
  have hzo : z.Ok := by rw [ez]; exact ⟨he.seq, he.kind, (⟨by omega, by omega⟩ : In who), he.time, he.bidder, he.lot, he.n, he.other, he.sx, he.sy, he.prev, he.r, he.s⟩
  obtain ⟨x, ex⟩ : ∃ f, f = signE s1 e := ⟨_, rfl⟩
  have hxo : x.Ok := by rw [ex]; exact signE_ok he s1
  obtain ⟨y, ey⟩ : ∃ f, f = bentE x q0 q1 := ⟨_, rfl⟩
  have hyo : y.Ok := by rw [ey]; exact bentE_ok hxo q0 q1
  obtain ⟨u, eu⟩ : ∃ f, f = signE s2 z := ⟨_, rfl⟩
  have huo : u.Ok := by rw [eu]; exact signE_ok hzo s2
  obtain ⟨v, ev⟩ : ∃ f, f = bentE u q0 q1 := ⟨_, rfl⟩
  have hvo : v.Ok := by rw [ev]; exact bentE_ok huo q0 q1
  have hes : e.name.size ≤ 1048576 ∧ e.text.size ≤ 1048576 := by omega
  have hzs : z.name.size ≤ 1048576 ∧ z.text.size ≤ 1048576 := by rw [ez]; exact hes
  have hxs : x.name.size ≤ 1048576 ∧ x.text.size ≤ 1048576 := by rw [ex]; exact hes
  have hus : u.name.size ≤ 1048576 ∧ u.text.size ≤ 1048576 := by rw [eu]; exact hzs
  have hys : y.name.size ≤ 4194304 ∧ y.text.size ≤ 4194304 := by
    have := bentE_size x q0 q1
    rw [← ey] at this; omega
  have hvs : v.name.size ≤ 4194304 ∧ v.text.size ≤ 4194304 := by
    have := bentE_size u q0 q1
    rw [← ev] at this; omega
  have g1 : ∀ W, Tab W → Calls Tryz.prog 25 #[.int .i64 s1, .agg (evC e).toArray] W (fun e' w' => e' = .returned (.agg (evC x).toArray) ∧ Only NoneOf W w') := fun W ht => by rw [ex]; exact esign_any s1 e he (by omega) (by omega) W ht
  have g2 : ∀ W, Tab W → Calls Tryz.prog 25 #[.int .i64 s2, .agg (evC z).toArray] W (fun e' w' => e' = .returned (.agg (evC u).toArray) ∧ Only NoneOf W w') := fun W ht => by rw [eu]; exact esign_any s2 z hzo (by omega) (by omega) W ht
  have g3 : ∀ W, Calls Tryz.prog 22 #[.agg (evC x).toArray, .agg #[.int .i64 q0, .int .i64 q1]] W (fun e' w' => e' = .returned (.agg (evC y).toArray) ∧ Only NoneOf W w') := fun W => by rw [ey]; exact rbent_any x hxo (by omega) (by omega) q0 q1 i0 i1 W
  have g4 : ∀ W, Calls Tryz.prog 22 #[.agg (evC u).toArray, .agg #[.int .i64 q0, .int .i64 q1]] W (fun e' w' => e' = .returned (.agg (evC v).toArray) ∧ Only NoneOf W w') := fun W => by rw [ev]; exact rbent_any u huo (by omega) (by omega) q0 q1 i0 i1 W
  obtain ⟨r0, er0⟩ : ∃ r, r = verL (persL sd 6) e := ⟨_, rfl⟩
  have v0 : ∀ (pv : Value) W, PerSl W pv (persL sd 6) → Tab W → Calls Tryz.prog 26 #[.agg #[pv, .int .i64 0, .slice none 0 0, .slice none 0 0, .int .i64 0, .int .i64 0], .agg (evC e).toArray] W (fun e' w' => e' = .returned (.int .i64 r0) ∧ Only NoneOf W w') := fun pv W hs ht => by
    rw [er0]
    exact everify_any (persL sd 6) pv _ _ _ _ _ e he (by omega) (by omega) W hs (pers_in sd 6) ht
  have p0 : ∀ (pv : Value) W, PerSl W pv (persL sd 6) → Calls Tryz.prog 28 #[.agg #[pv, .int .i64 0, .slice none 0 0, .slice none 0 0, .int .i64 0, .int .i64 0], .agg (evC e).toArray] W (fun e' w' => e' = .returned (.int .i64 r0) ∧ Only NoneOf W w') := fun pv W hs => by
    rw [er0]
    exact rverifyE_any (persL sd 6) pv _ _ _ _ _ e he (by omega) (by omega) W hs (pers_in sd 6)
  have V0 := Lib.hid v0
  have P0 := Lib.hid p0
  clear v0 p0 er0
  obtain ⟨r1, er1⟩ : ∃ r, r = verL (persL sd 6) x := ⟨_, rfl⟩
  have v1 : ∀ (pv : Value) W, PerSl W pv (persL sd 6) → Tab W → Calls Tryz.prog 26 #[.agg #[pv, .int .i64 0, .slice none 0 0, .slice none 0 0, .int .i64 0, .int .i64 0], .agg (evC x).toArray] W (fun e' w' => e' = .returned (.int .i64 r1) ∧ Only NoneOf W w') := fun pv W hs ht => by
    rw [er1]
    exact everify_any (persL sd 6) pv _ _ _ _ _ x hxo (by omega) (by omega) W hs (pers_in sd 6) ht
  have p1 : ∀ (pv : Value) W, PerSl W pv (persL sd 6) → Calls Tryz.prog 28 #[.agg #[pv, .int .i64 0, .slice none 0 0, .slice none 0 0, .int .i64 0, .int .i64 0], .agg (evC x).toArray] W (fun e' w' => e' = .returned (.int .i64 r1) ∧ Only NoneOf W w') := fun pv W hs => by
    rw [er1]
    exact rverifyE_any (persL sd 6) pv _ _ _ _ _ x hxo (by omega) (by omega) W hs (pers_in sd 6)
  have V1 := Lib.hid v1
  have P1 := Lib.hid p1
  clear v1 p1 er1
  obtain ⟨r2, er2⟩ : ∃ r, r = verL (persL sd 6) y := ⟨_, rfl⟩
  have v2 : ∀ (pv : Value) W, PerSl W pv (persL sd 6) → Tab W → Calls Tryz.prog 26 #[.agg #[pv, .int .i64 0, .slice none 0 0, .slice none 0 0, .int .i64 0, .int .i64 0], .agg (evC y).toArray] W (fun e' w' => e' = .returned (.int .i64 r2) ∧ Only NoneOf W w') := fun pv W hs ht => by
    rw [er2]
    exact everify_any (persL sd 6) pv _ _ _ _ _ y hyo (by omega) (by omega) W hs (pers_in sd 6) ht
  have p2 : ∀ (pv : Value) W, PerSl W pv (persL sd 6) → Calls Tryz.prog 28 #[.agg #[pv, .int .i64 0, .slice none 0 0, .slice none 0 0, .int .i64 0, .int .i64 0], .agg (evC y).toArray] W (fun e' w' => e' = .returned (.int .i64 r2) ∧ Only NoneOf W w') := fun pv W hs => by
    rw [er2]
    exact rverifyE_any (persL sd 6) pv _ _ _ _ _ y hyo (by omega) (by omega) W hs (pers_in sd 6)
  have V2 := Lib.hid v2
  have P2 := Lib.hid p2
  clear v2 p2 er2
  obtain ⟨r3, er3⟩ : ∃ r, r = verL (persL sd 6) v := ⟨_, rfl⟩
  have v3 : ∀ (pv : Value) W, PerSl W pv (persL sd 6) → Tab W → Calls Tryz.prog 26 #[.agg #[pv, .int .i64 0, .slice none 0 0, .slice none 0 0, .int .i64 0, .int .i64 0], .agg (evC v).toArray] W (fun e' w' => e' = .returned (.int .i64 r3) ∧ Only NoneOf W w') := fun pv W hs ht => by
    rw [er3]
    exact everify_any (persL sd 6) pv _ _ _ _ _ v hvo (by omega) (by omega) W hs (pers_in sd 6) ht
  have p3 : ∀ (pv : Value) W, PerSl W pv (persL sd 6) → Calls Tryz.prog 28 #[.agg #[pv, .int .i64 0, .slice none 0 0, .slice none 0 0, .int .i64 0, .int .i64 0], .agg (evC v).toArray] W (fun e' w' => e' = .returned (.int .i64 r3) ∧ Only NoneOf W w') := fun pv W hs => by
    rw [er3]
    exact rverifyE_any (persL sd 6) pv _ _ _ _ _ v hvo (by omega) (by omega) W hs (pers_in sd 6)
  have V3 := Lib.hid v3
  have P3 := Lib.hid p3
  clear v3 p3 er3
  have g5 : ∀ W, Tab W → Calls Tryz.prog 26 #[.agg #[.slice none 0 0, .int .i64 0, .slice none 0 0, .slice none 0 0, .int .i64 0, .int .i64 0], .agg (evC x).toArray] W (fun e' w' => e' = .returned (.int .i64 35) ∧ Only NoneOf W w') := fun W ht =>
    everify_any [] (.slice none 0 0) _ _ _ _ _ x hxo (by omega) (by omega) W ⟨none, 0, rfl, Nat.le_refl _, by omega, fun i p hp => by simp at hp⟩ (fun p hp => by cases hp) ht
  have hset : (evC e).set 2 (.int .i64 who) = evC z := by rw [ez]; rfl
  have hzw : z.who = who := by rw [ez]
  have HA := Lib.hid hA
  have HE := Lib.hid hE
  have HEO := Lib.hid he
  have HZO := Lib.hid hzo
  have HXO := Lib.hid hxo
  have HYO := Lib.hid hyo
  have HVO := Lib.hid hvo
  have HSET := Lib.hid hset
  have HZW := Lib.hid hzw
  have HSD := Lib.hid hsd
  have G1 := Lib.hid g1
  have G2 := Lib.hid g2
  have G3 := Lib.hid g3
  have G4 := Lib.hid g4
  have G5 := Lib.hid g5
  have HEB := Lib.hid eB
  clear hA hE he hzo hxo hyo huo hvo hset hzw hsd g1 g2 g3 g4 g5 eB ex ey eu ev ez es1 es2 eq7 esd ewho hwho hes hzs hxs hus hys hvs hb i0 i1
  go_enter Tryz.func9, Tryz.ntmps9
  go_upto_region 1 with (fail)
  rw [← HEB.out]
  refine wp_gen (fun Z => EvAt Z B e ∧ Blk Z (B + 1) 63 #[.int .i64 q0, .int .i64 q1, .int .i64 q2] ∧ Only NoneOf w Z) HA.out ?_
  rintro Z0 ⟨hE0, hQ0, hO0⟩
  have HE0 := Lib.hid hE0
  have HQ0 := Lib.hid hQ0
  have HO0 := Lib.hid hO0
  clear hE0 hO0 hQ0 HA
  go_wp2_with fail
  refine (sanity_any Z0 (HE.out.none HO0.out)).mono ?_
  rintro e1' w1 ⟨rfl, ho1⟩
  have HE1 := Lib.hid (HE0.out.only ho1 (fun e => e))
  have HQ1 := Lib.hid (HQ0.out.only ho1 (fun e => e))
  have HO1 := Lib.hid (HO0.out.trans ho1)
  clear ho1 HE0 HO0 HQ0
  go_wp2_with fail
  refine (persons_any sd HSD.out.1 HSD.out.2 w1).mono ?_
  rintro e3 w3 ⟨pv, rfl, hsl, ho3⟩
  obtain ⟨pA, pcap, rfl⟩ : ∃ A c, pv = .slice A 6 c := by
    obtain ⟨A, c, hv, _⟩ := hsl
    rw [persL_len] at hv
    exact ⟨A, c, hv⟩
  have hst := st_store_new w3 pA 6 pcap
  obtain ⟨U, eU⟩ : ∃ U, U = w3.heap.size := ⟨_, rfl⟩
  have hSi : SiS w w3 B U e (.slice pA 6 pcap) (persL sd 6) ((w3.alloc (.cells #[.slice none 0 0, .int .i64 0, .slice none 0 0, .slice none 0 0, .int .i64 0, .int .i64 0] 58)).setCells U 0 [.slice pA 6 pcap, .int .i64 0, .slice none 0 0, .slice none 0 0, .int .i64 0, .int .i64 0]) ∧ Blk ((w3.alloc (.cells #[.slice none 0 0, .int .i64 0, .slice none 0 0, .slice none 0 0, .int .i64 0, .int .i64 0] 58)).setCells U 0 [.slice pA 6 pcap, .int .i64 0, .slice none 0 0, .slice none 0 0, .int .i64 0, .int .i64 0]) (B + 1) 63 #[.int .i64 q0, .int .i64 q1, .int .i64 q2] := by
    have h1 := st_new w3 pA 6 pcap
    rw [← eU] at h1
    have hE4 := HE1.out.only ho3 (fun e => e)
    have hQ4 := HQ1.out.only ho3 (fun e => e)
    exact ⟨⟨(hE4.alloc _).farCells (by have := hE4.lt; omega) _ 0, h1, hsl, only_setCells ((Only.refl _ _).alloc _) U 0 (.inr (by omega)) _, only_setCells ((HO1.out.trans ho3).alloc _) U 0 (.inr (by rw [eU]; exact (HO1.out.trans ho3).size)) _⟩, (hQ4.alloc _).farCells (by have := hQ4.lt; omega) _ 0⟩
  have hUw : w3.heap.size ≤ U ∧ w.heap.size ≤ U := ⟨by omega, by rw [eU]; exact (HO1.out.trans ho3).size⟩
  have HSI := Lib.hid hSi
  have HEU := Lib.hid eU
  clear hSi eU hsl ho3 HE1 HO1 HQ1
  go_upto_region 3 with (fail)
  rw [← HEU.out]
  refine wp_gen (fun Z => SiS w w3 B U e (.slice pA 6 pcap) (persL sd 6) Z ∧ Blk Z (B + 1) 63 #[.int .i64 q0, .int .i64 q1, .int .i64 q2]) HSI.out ?_
  rintro W4 ⟨h4, hq4⟩
  have c2 : W4.cell? ⟨B + 1, 2, none⟩ = some (.int .i64 q2) := hq4.cell 2
  have hl4 := ev_load h4.ev HEO.out.prev
  have H4 := Lib.hid h4
  have HQ4 := Lib.hid hq4
  clear h4 hq4 HSI hst
  go_wp2_with fail
  refine (G1.out W4 (HE.out.tab.none H4.out.only)).mono ?_
  rintro e4 w4 ⟨rfl, ho4⟩
  have hst4 := ev_store_new w4 HXO.out.prev
  unfold zeroEv at hst4
  dsimp only at hst4
  obtain ⟨X, eX⟩ : ∃ X, X = w4.heap.size := ⟨_, rfl⟩
  have h5 : SiS w w3 B U e (.slice pA 6 pcap) (persL sd 6) ((w4.alloc (.cells (evC blank0).toArray tEv)).setCells X 0 (evC x)) ∧ Blk ((w4.alloc (.cells (evC blank0).toArray tEv)).setCells X 0 (evC x)) (B + 1) 63 #[.int .i64 q0, .int .i64 q1, .int .i64 q2] ∧ EvAt ((w4.alloc (.cells (evC blank0).toArray tEv)).setCells X 0 (evC x)) X x := by
    rw [eX]
    have hq5 := HQ4.out.only ho4 (fun e => e)
    exact ⟨(H4.out.keep ho4).more _ _, (hq5.alloc _).farCells (by have := hq5.lt; omega) _ 0, ev_new w4 x HXO.out.prev⟩
  have H5 := Lib.hid h5
  have HEX := Lib.hid eX
  clear h5 eX ho4 H4 HQ4 c2 hl4
  go_upto_region 4 with (fail)
  rw [← HEX.out]
  refine wp_gen (fun Z => SiS w w3 B U e (.slice pA 6 pcap) (persL sd 6) Z ∧ Blk Z (B + 1) 63 #[.int .i64 q0, .int .i64 q1, .int .i64 q2] ∧ EvAt Z X x) H5.out ?_
  rintro W5 ⟨h6, hq6, hX6⟩
  have hl5 := ev_load hX6 HXO.out.prev
  have d0 : W5.cell? ⟨B + 1, 0, none⟩ = some (.int .i64 q0) := hq6.cell 0
  have d1 : W5.cell? ⟨B + 1, 1, none⟩ = some (.int .i64 q1) := hq6.cell 1
  have H6 := Lib.hid h6
  have HQ6 := Lib.hid hq6
  have HX6 := Lib.hid hX6
  clear h6 hq6 hX6 H5 hst4
  go_wp2_with fail
  refine (G3.out W5).mono ?_
  rintro e5 w5 ⟨rfl, ho5⟩
  have hst5 := ev_store_new w5 HYO.out.prev
  unfold zeroEv at hst5
  dsimp only at hst5
  obtain ⟨Y, eY⟩ : ∃ Y, Y = w5.heap.size := ⟨_, rfl⟩
  have h7 : SiS w w3 B U e (.slice pA 6 pcap) (persL sd 6) ((w5.alloc (.cells (evC blank0).toArray tEv)).setCells Y 0 (evC y)) ∧ Blk ((w5.alloc (.cells (evC blank0).toArray tEv)).setCells Y 0 (evC y)) (B + 1) 63 #[.int .i64 q0, .int .i64 q1, .int .i64 q2] ∧ EvAt ((w5.alloc (.cells (evC blank0).toArray tEv)).setCells Y 0 (evC y)) X x ∧ EvAt ((w5.alloc (.cells (evC blank0).toArray tEv)).setCells Y 0 (evC y)) Y y := by
    rw [eY]
    have hq7 := HQ6.out.only ho5 (fun e => e)
    exact ⟨(H6.out.keep ho5).more _ _, (hq7.alloc _).farCells (by have := hq7.lt; omega) _ 0, EvAt.more (HX6.out.only ho5 (fun e => e)) _ _, ev_new w5 y HYO.out.prev⟩
  have H7 := Lib.hid h7
  have HEY := Lib.hid eY
  clear h7 eY H6 HQ6 HX6 hl5 d0 d1 ho5
  go_upto_region 5 with (fail)
  rw [← HEY.out]
  refine wp_gen (fun Z => SiS w w3 B U e (.slice pA 6 pcap) (persL sd 6) Z ∧ Blk Z (B + 1) 63 #[.int .i64 q0, .int .i64 q1, .int .i64 q2] ∧ EvAt Z X x ∧ EvAt Z Y y) H7.out ?_
  rintro W6 ⟨h8, hq8, hX8, hY8⟩
  have hl6 := ev_load h8.ev HEO.out.prev
  have hst6 := ev_store_new W6 HEO.out.prev
  unfold zeroEv at hst6
  dsimp only at hst6
  obtain ⟨C, eC⟩ : ∃ C, C = W6.heap.size := ⟨_, rfl⟩
  have h9 : SiS w w3 B U e (.slice pA 6 pcap) (persL sd 6) ((W6.alloc (.cells (evC blank0).toArray tEv)).setCells C 0 (evC e)) ∧ Blk ((W6.alloc (.cells (evC blank0).toArray tEv)).setCells C 0 (evC e)) (B + 1) 63 #[.int .i64 q0, .int .i64 q1, .int .i64 q2] ∧ EvAt ((W6.alloc (.cells (evC blank0).toArray tEv)).setCells C 0 (evC e)) X x ∧ EvAt ((W6.alloc (.cells (evC blank0).toArray tEv)).setCells C 0 (evC e)) Y y ∧ EvAt ((W6.alloc (.cells (evC blank0).toArray tEv)).setCells C 0 (evC e)) C e := by
    rw [eC]
    exact ⟨h8.more _ _, (hq8.alloc _).farCells (by have := hq8.lt; omega) _ 0, EvAt.more hX8 _ _, EvAt.more hY8 _ _, ev_new W6 e HEO.out.prev⟩
  have hCb : B ≠ C ∧ U ≠ C ∧ w3.heap.size ≤ C ∧ w.heap.size ≤ C ∧ X ≠ C ∧ Y ≠ C ∧ B + 1 ≠ C := by
    have a1 := h8.ev.lt
    have a2 := Blk.lt h8.st
    have a3 := h8.on3.size
    have a4 := h8.only.size
    have a5 := hX8.lt
    have a6 := hY8.lt
    have a7 := hq8.lt
    exact ⟨by omega, by omega, by omega, by omega, by omega, by omega, by omega⟩
  have H9 := Lib.hid h9
  have HEC := Lib.hid eC
  clear h9 eC h8 hq8 hX8 hY8 H7 hst5
  go_upto_region 6 with (fail)
  rw [← HEC.out]
  refine wp_gen (fun Z => SiS w w3 B U e (.slice pA 6 pcap) (persL sd 6) Z ∧ Blk Z (B + 1) 63 #[.int .i64 q0, .int .i64 q1, .int .i64 q2] ∧ EvAt Z X x ∧ EvAt Z Y y ∧ EvAt Z C e) H9.out ?_
  rintro W7 ⟨h10, hq10, hX10, hY10, hC10⟩
  have b2 : W7.cell? ⟨B, 2, none⟩ = some (.int .i64 e.who) := ev_cell h10.ev 2
  have y2 : W7.cell? ⟨C, 2, none⟩ = some (.int .i64 e.who) := ev_cell hC10 2
  have f2 := Blk.frozen hC10 2
  have h11 := h10.set hCb.1 hCb.2.1 hCb.2.2.1 hCb.2.2.2.1 2 (.int .i64 who)
  have hq11 := Blk.far (p := ⟨C, 2, none⟩) hq10 hCb.2.2.2.2.2.2 (.int .i64 who)
  have hX11 := Blk.far (p := ⟨C, 2, none⟩) hX10 hCb.2.2.2.2.1 (.int .i64 who)
  have hY11 := Blk.far (p := ⟨C, 2, none⟩) hY10 hCb.2.2.2.2.2.1 (.int .i64 who)
  have hC11 : EvAt (W7.setCell ⟨C, 2, none⟩ (.int .i64 who)) C z := ev_set hC10 HSET.out
  have H11 := Lib.hid (And.intro h11 (And.intro hq11 (And.intro hX11 (And.intro hY11 hC11))))
  clear h10 hq10 hX10 hY10 hC10 h11 hq11 hX11 hY11 hC11 H9 hl6 hst6
  go_upto_region 7 with (fail)
  refine wp_gen (fun Z => SiS w w3 B U e (.slice pA 6 pcap) (persL sd 6) Z ∧ Blk Z (B + 1) 63 #[.int .i64 q0, .int .i64 q1, .int .i64 q2] ∧ EvAt Z X x ∧ EvAt Z Y y ∧ EvAt Z C z) H11.out ?_
  rintro W8 ⟨h12, hq12, hX12, hY12, hC12⟩
  clear b2 y2 f2 H11
  obtain ⟨N0, eN0⟩ : ∃ N, N = W8.heap.size := ⟨_, rfl⟩
  have hN : B < N0 ∧ U < N0 ∧ X < N0 ∧ Y < N0 ∧ C < N0 ∧ B + 1 < N0 ∧ w.heap.size ≤ N0 ∧ w3.heap.size ≤ N0 := by
    have a1 := h12.ev.lt
    have a2 := Blk.lt h12.st
    have a3 := h12.on3.size
    have a4 := h12.only.size
    have a5 := hX12.lt
    have a6 := hY12.lt
    have a7 := hq12.lt
    have a8 := hC12.lt
    exact ⟨by omega, by omega, by omega, by omega, by omega, by omega, by omega, by omega⟩
  have hS0 : Sv7 w w3 B U X Y C N0 e x y z q0 q1 q2 (.slice pA 6 pcap) (persL sd 6) W8 := ⟨h12, hq12, hX12, hY12, hC12, by omega⟩
  have hS : Sv7 w w3 B U X Y C N0 e x y z q0 q1 q2 (.slice pA 6 pcap) (persL sd 6) W8.drew := hS0.keep (Only.refl _ _).drew
  have l1 : ∀ W, Sv7 w w3 B U X Y C N0 e x y z q0 q1 q2 (.slice pA 6 pcap) (persL sd 6) W → (evLoad (.pointer (some ⟨C, 0, none⟩))).run Tryz.prog W = .ok (.agg (evC z).toArray) W := fun W h => ev_load h.c HZO.out.prev
  have l2 : ∀ W, Sv7 w w3 B U X Y C N0 e x y z q0 q1 q2 (.slice pA 6 pcap) (persL sd 6) W → W.cell? ⟨C, 2, none⟩ = some (.int .i64 who) := fun W h => by
    have := ev_cell h.c 2
    rw [← HZW.out]; exact this
  have l3 : ∀ W, Sv7 w w3 B U X Y C N0 e x y z q0 q1 q2 (.slice pA 6 pcap) (persL sd 6) W → W.cell? ⟨B + 1, 0, none⟩ = some (.int .i64 q0) := fun W h => h.q.cell 0
  have l4 : ∀ W, Sv7 w w3 B U X Y C N0 e x y z q0 q1 q2 (.slice pA 6 pcap) (persL sd 6) W → W.cell? ⟨B + 1, 1, none⟩ = some (.int .i64 q1) := fun W h => h.q.cell 1
  have hstA := fun W => ev_store_new W HVO.out.prev
  unfold zeroEv at hstA
  dsimp only at hstA
  have HN := Lib.hid hN
  have HEN := Lib.hid eN0
  have HAL : Hid (∀ W o, Sv7 w w3 B U X Y C N0 e x y z q0 q1 q2 (.slice pA 6 pcap) (persL sd 6) W → Sv7 w w3 B U X Y C N0 e x y z q0 q1 q2 (.slice pA 6 pcap) (persL sd 6) (W.alloc o)) := Lib.hid (fun W o h => h.keep ((Only.refl _ _).alloc o))
  have HKP : Hid (∀ W W', Sv7 w w3 B U X Y C N0 e x y z q0 q1 q2 (.slice pA 6 pcap) (persL sd 6) W → Only NoneOf W W' → Sv7 w w3 B U X Y C N0 e x y z q0 q1 q2 (.slice pA 6 pcap) (persL sd 6) W') := Lib.hid (fun W W' h ho => h.keep ho)
  have HFAR : Hid (∀ W V vs, Sv7 w w3 B U X Y C N0 e x y z q0 q1 q2 (.slice pA 6 pcap) (persL sd 6) W → N0 ≤ V → Sv7 w w3 B U X Y C N0 e x y z q0 q1 q2 (.slice pA 6 pcap) (persL sd 6) (W.setCells V 0 vs)) := Lib.hid (fun W V vs h hV => Sv7.far HN.out h V hV vs)
  have HTB : Hid (∀ W, Sv7 w w3 B U X Y C N0 e x y z q0 q1 q2 (.slice pA 6 pcap) (persL sd 6) W → Tab W) := Lib.hid (fun W h => HE.out.tab.none h.si.only)
  have HFIN : Hid (∀ W V, Sv7 w w3 B U X Y C N0 e x y z q0 q1 q2 (.slice pA 6 pcap) (persL sd 6) W → EvAt W V blank0 → N0 ≤ V → SvS w w3 B U X Y V e x y v (.slice pA 6 pcap) (persL sd 6) (W.setCells V 0 (evC v))) := Lib.hid (fun W V h hV hn => by
    have h1 := Sv7.far HN.out h V hn (evC v)
    exact ⟨h1.si, h1.x, h1.y, setCells_own hV (by rw [evC_len HVO.out.prev]; rfl)⟩)
  clear h12 hq12 hX12 hY12 hC12 hS0 hN eN0
  go_cut [12] from 38 (fun p wx => ∃ V, p = .pointer (some ⟨V, 0, none⟩) ∧ SvS w w3 B U X Y V e x y v (.slice pA 6 pcap) (persL sd 6) wx)
  case first =>
    go_region_held3 (fun w' => Sv7 w w3 B U X Y C N0 e x y z q0 q1 q2 (.slice pA 6 pcap) (persL sd 6) w') (first | assumption | exact HAL.out _ _ (by assumption) | exact HFAR.out _ _ _ (by assumption) (by first | exact Nat.le_of_eq HEN.out | exact Sv7.n (by assumption)))
      (first
        | (go_at_call 25; refine (G2.out _ (HTB.out _ (by assumption))).mono ?_; rintro e2 w2 ⟨rfl, ho2⟩; have hS2 := HKP.out _ _ (by assumption) ho2; (first | (have hb2 := Blk.only (Blk.new _ _ _) ho2 (fun e => e); have hst2 := ev_store (cs := evC blank0) hb2 rfl HVO.out.prev) | (have hb2 := Blk.only (Blk.drew (Blk.new _ _ _)) ho2 (fun e => e); have hst2 := ev_store (cs := evC blank0) hb2 rfl HVO.out.prev) | skip))
        | (go_at_call 22; refine (G4.out _).mono ?_; rintro e4 w4 ⟨rfl, ho4⟩; have hS4 := HKP.out _ _ (by assumption) ho4; (first | (have hb4 := Blk.only hb2 ho4 (fun e => e); have hst4 := ev_store (cs := evC blank0) hb4 rfl HVO.out.prev) | (have hb4 := Blk.only (Blk.new _ _ _) ho4 (fun e => e); have hst4 := ev_store (cs := evC blank0) hb4 rfl HVO.out.prev) | (have hb4 := Blk.only (Blk.drew (Blk.new _ _ _)) ho4 (fun e => e); have hst4 := ev_store (cs := evC blank0) hb4 rfl HVO.out.prev) | skip)))
    all_goals
      go_wp2_with fail
      go_meet
      case rel => exact ⟨_, rfl, HFIN.out _ _ (by first | exact hS4 | exact HAL.out _ _ hS4) (by first | exact hb4 | exact Blk.new _ _ _) (by first | exact Nat.le_of_eq HEN.out | exact hS4.n | exact hS2.n)⟩
  case rest =>
  obtain ⟨V, rfl, hSv⟩ := hcut
  clear hS l1 l2 l3 l4 hstA HAL HKP HFAR HTB HFIN
  have hlx := ev_load hSv.x HXO.out.prev
  have HSV := Lib.hid hSv
  clear hSv
  go_wp2_with fail
  refine (G5.out wc (HE.out.tab.none HSV.out.si.only)).mono ?_
  rintro e8 w8 ⟨rfl, ho8⟩
  have HS8 := Lib.hid (HSV.out.keep ho8)
  clear ho8 HSV hlx
  go_upto_region 9 with (fail)
  have hS := HS8.out.keep (Only.refl _ _).drew
  have m1 : ∀ W, SvS w w3 B U X Y V e x y v (.slice pA 6 pcap) (persL sd 6) W → (stLoad (.pointer (some ⟨U, 0, none⟩))).run Tryz.prog W = .ok (.agg #[.slice pA 6 pcap, .int .i64 0, .slice none 0 0, .slice none 0 0, .int .i64 0, .int .i64 0]) W := fun W h => st_load h.si.st
  have m2 : ∀ W, SvS w w3 B U X Y V e x y v (.slice pA 6 pcap) (persL sd 6) W → (evLoad (.pointer (some ⟨B, 0, none⟩))).run Tryz.prog W = .ok (.agg (evC e).toArray) W := fun W h => ev_load h.si.ev HEO.out.prev
  have m3 : ∀ W, SvS w w3 B U X Y V e x y v (.slice pA 6 pcap) (persL sd 6) W → (evLoad (.pointer (some ⟨X, 0, none⟩))).run Tryz.prog W = .ok (.agg (evC x).toArray) W := fun W h => ev_load h.x HXO.out.prev
  have m4 : ∀ W, SvS w w3 B U X Y V e x y v (.slice pA 6 pcap) (persL sd 6) W → (evLoad (.pointer (some ⟨Y, 0, none⟩))).run Tryz.prog W = .ok (.agg (evC y).toArray) W := fun W h => ev_load h.y HYO.out.prev
  have m5 : ∀ W, SvS w w3 B U X Y V e x y v (.slice pA 6 pcap) (persL sd 6) W → (evLoad (.pointer (some ⟨V, 0, none⟩))).run Tryz.prog W = .ok (.agg (evC v).toArray) W := fun W h => ev_load h.v HVO.out.prev
  have HTB2 : Hid (∀ W, SvS w w3 B U X Y V e x y v (.slice pA 6 pcap) (persL sd 6) W → Tab W) := Lib.hid (fun W h => HE.out.tab.none h.si.only)
  have HSL : Hid (∀ W, SvS w w3 B U X Y V e x y v (.slice pA 6 pcap) (persL sd 6) W → PerSl W (.slice pA 6 pcap) (persL sd 6)) := Lib.hid (fun W h => h.si.sl.only h.si.on3)
  have HK2 : Hid (∀ W W', SvS w w3 B U X Y V e x y v (.slice pA 6 pcap) (persL sd 6) W → Only NoneOf W W' → SvS w w3 B U X Y V e x y v (.slice pA 6 pcap) (persL sd 6) W') := Lib.hid (fun W W' h ho => h.keep ho)
  clear HS8
  go_region_held3 (fun w' => SvS w w3 B U X Y V e x y v (.slice pA 6 pcap) (persL sd 6) w') (first | assumption)
    (first
      | (go_at_call 26; (with_reducible refine (V0.out _ _ (HSL.out _ (by assumption)) (HTB2.out _ (by assumption))).mono ?_); rintro e2 w2 ⟨rfl, ho2⟩; have hS2 := HK2.out _ _ (by assumption) ho2; clear ho2)
      | (go_at_call 28; (with_reducible refine (P0.out _ _ (HSL.out _ (by assumption))).mono ?_); rintro e2 w2 ⟨rfl, ho2⟩; have hS2 := HK2.out _ _ (by assumption) ho2; clear ho2)
      | (go_at_call 26; (with_reducible refine (V1.out _ _ (HSL.out _ (by assumption)) (HTB2.out _ (by assumption))).mono ?_); rintro e2 w2 ⟨rfl, ho2⟩; have hS2 := HK2.out _ _ (by assumption) ho2; clear ho2)
      | (go_at_call 28; (with_reducible refine (P1.out _ _ (HSL.out _ (by assumption))).mono ?_); rintro e2 w2 ⟨rfl, ho2⟩; have hS2 := HK2.out _ _ (by assumption) ho2; clear ho2)
      | (go_at_call 26; (with_reducible refine (V2.out _ _ (HSL.out _ (by assumption)) (HTB2.out _ (by assumption))).mono ?_); rintro e2 w2 ⟨rfl, ho2⟩; have hS2 := HK2.out _ _ (by assumption) ho2; clear ho2)
      | (go_at_call 28; (with_reducible refine (P2.out _ _ (HSL.out _ (by assumption))).mono ?_); rintro e2 w2 ⟨rfl, ho2⟩; have hS2 := HK2.out _ _ (by assumption) ho2; clear ho2)
      | (go_at_call 26; (with_reducible refine (V3.out _ _ (HSL.out _ (by assumption)) (HTB2.out _ (by assumption))).mono ?_); rintro e2 w2 ⟨rfl, ho2⟩; have hS2 := HK2.out _ _ (by assumption) ho2; clear ho2)
      | (go_at_call 28; (with_reducible refine (P3.out _ _ (HSL.out _ (by assumption))).mono ?_); rintro e2 w2 ⟨rfl, ho2⟩; have hS2 := HK2.out _ _ (by assumption) ho2; clear ho2))
  all_goals
    go_wp2_with fail
    go_ret
    exact ⟨rfl, hS2.si.only⟩
end Go.Proofs.YtclpebgjmgfigaaGreatDoor
