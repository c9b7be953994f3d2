/- What is proved here: several parts. which officers contradict themselves, and by which votes: plain laws. No conditions. · the heads, lists of heads and votes that the laws make from numbers: plain laws. No conditions. · heads by numbers, as the laws' reference makes them. Condition: the number is an int. · a vote by numbers, as the laws' reference makes it. Condition: the numbers are bytes. · votes by numbers, 40 at most, as the laws' reference makes them. Condition: the numbers are bytes. -/
import Derived.Test.YtgalfohobgjelaaGreatDoorNi17
import Derived.Test.YtgalfohobgjelaaGreatDoorNi18
import Derived.Deep.DeepCutAuto
namespace Go.Proofs.YtgalfohobgjelaaGreatDoor
/-- The first two votes of a list that do not agree. -/
noncomputable def firstP (ag : Hd → Hd → Bool) : List Vt → Option (Vt × Vt)
  | [] => none
  | v :: l => match l.find? (fun u => !ag v.head u.head) with
    | some u => some (v, u)
    | none => firstP ag l
theorem firstP_nil (ag : Hd → Hd → Bool) : firstP ag [] = none := rfl
theorem firstP_cons (ag : Hd → Hd → Bool) (v : Vt) (l : List Vt) : firstP ag (v :: l) = match l.find? (fun u => !ag v.head u.head) with | some u => some (v, u) | none => firstP ag l := rfl
/-- A blame: whom, and the two votes. -/
structure Blm where
  who : Int
  a : Vt
  b : Vt
noncomputable def blmOf (ag : Hd → Hd → Bool) (L : List Vt) (p : Pers) : Option Blm := (firstP ag (L.filter (cnts p))).map (fun x => ⟨p.id, x.1, x.2⟩)
noncomputable def clashO (ag : Hd → Hd → Bool) (L : List Vt) (O : List Pers) : List Blm := O.filterMap (blmOf ag L)
noncomputable def clashL (ag : Hd → Hd → Bool) (P : List Pers) (L : List Vt) : List Blm := clashO ag L (offs P)
theorem clashO_take {ag : Hd → Hd → Bool} {L : List Vt} {O : List Pers} {k : Nat} {p : Pers} (h : O[k]? = some p) : clashO ag L (O.take (k + 1)) = clashO ag L (O.take k) ++ (match blmOf ag L p with | some b => [b] | none => []) := by
  unfold clashO
  rw [List.take_add_one, h, Option.toList_some, List.filterMap_append]
  congr 1
  rw [List.filterMap_cons]
  cases blmOf ag L p <;> rfl
theorem clashO_len (ag : Hd → Hd → Bool) (L : List Vt) (O : List Pers) : (clashO ag L O).length ≤ O.length := List.length_filterMap_le _ _
end Go.Proofs.YtgalfohobgjelaaGreatDoor
namespace Go.Proofs.YtgalfohobgjelaaGreatDoor
/-- A head by a number. -/
def headI (n : Int) : Hd := ⟨n % 8 / 2, UInt8.ofNat (n % 8).toNat :: 9 :: List.replicate 30 0⟩
theorem headI_ok (n : Int) : (headI n).Ok := ⟨⟨by show (-9223372036854775808 : Int) ≤ n % 8 / 2; omega, by show n % 8 / 2 ≤ (9223372036854775807 : Int); omega⟩, rfl⟩
/-- Two heads agree, where growth is told by f. -/
noncomputable def agB (f : Hd → Hd → Bool) (a b : Hd) : Bool := eqHd a b || ((decide (a.size < b.size) && f a b) || (decide (b.size < a.size) && f b a))
theorem eqHd_comm (a b : Hd) : eqHd a b = eqHd b a := by rw [Bool.eq_iff_iff, eqHd_true, eqHd_true]; exact eq_comm
theorem agB_comm (f : Hd → Hd → Bool) (a b : Hd) : agB f a b = agB f b a := by
  unfold agB
  rw [eqHd_comm, Bool.or_comm (decide (a.size < b.size) && f a b)]
theorem agB_same (f : Hd → Hd → Bool) {a b : Hd} (h : a ≠ b) (hs : a.size = b.size) : agB f a b = false := by
  unfold agB
  rw [eqHd_false.2 h]
  simp [hs]
theorem agB_lt (f : Hd → Hd → Bool) {a b : Hd} (hs : a.size < b.size) : agB f a b = f a b := by
  unfold agB
  have : a ≠ b := fun e => by rw [e] at hs; omega
  rw [eqHd_false.2 this]
  simp [hs, show ¬ b.size < a.size by omega]
theorem agB_gt (f : Hd → Hd → Bool) {a b : Hd} (hs : b.size < a.size) : agB f a b = f b a := by rw [agB_comm]; exact agB_lt f hs
structure Bal where
  who : Nat
  head : Nat
  wrong : Nat
structure Bal.Ok (b : Bal) : Prop where
  who : b.who < 256
  head : b.head < 256
  wrong : b.wrong < 256
def BalsOk (l : List Bal) : Prop := ∀ b ∈ l, b.Ok
def balC (b : Bal) : List Value := [.int .u8 (b.who : Int), .int .u8 (b.head : Int), .int .u8 (b.wrong : Int)]
theorem balC_len (b : Bal) : (balC b).length = 3 := rfl
def balWho (b : Bal) : Int := ((b.who % 16 : Nat) : Int)
/-- The vote of a ballot. -/
noncomputable def balV (b : Bal) : Vt :=
  match b.wrong % 12 with
  | 1 => voteOf (balWho b) (secI (balWho b + 1)) (headI b.head)
  | 2 => { voteOf (balWho b) (secI (balWho b)) (headI b.head) with head := headI ((b.head : Int) + 1) }
  | 3 => { voteOf (balWho b) (secI (balWho b)) (headI b.head) with s := ((voteOf (balWho b) (secI (balWho b)) (headI b.head)).s + 1) % 1152921504606845789 }
  | _ => voteOf (balWho b) (secI (balWho b)) (headI b.head)
theorem balWho_in (b : Bal) : 0 ≤ balWho b ∧ balWho b ≤ 15 := by unfold balWho; omega
theorem balV_ok (b : Bal) : (balV b).Ok := by
  have hw := balWho_in b
  have hi : In (balWho b) := ⟨by omega, by omega⟩
  have h0 : ∀ sec, (voteOf (balWho b) sec (headI b.head)).Ok := fun sec => vote_ok hi (headI_ok _)
  obtain ⟨V, eV⟩ : ∃ V, V = voteOf (balWho b) (secI (balWho b)) (headI b.head) := ⟨_, rfl⟩
  have hV : V.Ok := by rw [eV]; exact h0 _
  have e : balV b = (match b.wrong % 12 with | 1 => voteOf (balWho b) (secI (balWho b + 1)) (headI b.head) | 2 => { V with head := headI ((b.head : Int) + 1) } | 3 => { V with s := (V.s + 1) % 1152921504606845789 } | _ => V) := by rw [eV]; rfl
  rw [e]
  clear e eV
  split
  · exact h0 _
  · exact ⟨hV.who, headI_ok _, hV.r, hV.s⟩
  · refine ⟨hV.who, hV.head, hV.r, ?_⟩
    constructor
    · show (-9223372036854775808 : Int) ≤ (V.s + 1) % 1152921504606845789; omega
    · show (V.s + 1) % 1152921504606845789 ≤ (9223372036854775807 : Int); omega
  · exact hV
noncomputable def votesL (l : List Bal) : List Vt := (l.take 40).map balV
theorem votesL_ok (l : List Bal) : VtsOk (votesL l) := fun v hv => by
  obtain ⟨b, _, rfl⟩ := List.mem_map.1 hv
  exact balV_ok b
theorem votesL_len (l : List Bal) : (votesL l).length ≤ 40 := by unfold votesL; rw [List.length_map]; exact List.length_take_le _ _
end Go.Proofs.YtgalfohobgjelaaGreatDoor
namespace Go.Proofs.YtgalfohobgjelaaGreatDoor
open Go.RowKit Go.Shelf
attribute [local go_sem ↓ high] hdLoad_eq hdNew_eq hdStore_eq hdBd_eq
theorem rmod29_any (n m : Int) (_hn : In n) (hm : 0 < m) (hm2 : m ≤ 2000000000000000000) (w : World) : Calls Tryz.prog 113 #[.int .i64 n, .int .i64 m] w fun e w' => e = .returned (.int .i64 (n % m)) ∧ w' = w := by
  obtain ⟨r, er⟩ : ∃ r, r = n.tmod m := ⟨_, rfl⟩
  have hr1 : -m < r ∧ r < m := by
    rw [er]; exact ⟨Int.lt_tmod_of_pos n hm, Int.tmod_lt_of_pos n hm⟩
  have hr2 : n % m = if r < 0 then r + m else r := by
    rw [er, Int.tmod_eq_emod]
    have := Int.emod_nonneg n (show m ≠ 0 by omega)
    have := Int.emod_lt_of_pos n hm
    have hab : (m.natAbs : Int) = m := by omega
    split <;> split <;> omega
  have hr3 : (r + m).tmod m = n % m := by
    rw [Int.tmod_eq_emod_of_nonneg (by omega), hr2]
    split
    · exact Int.emod_eq_of_lt (by omega) (by omega)
    · rw [Int.add_emod_right]; exact Int.emod_eq_of_lt (by omega) (by omega)
  have hr4 : 0 ≤ n % m ∧ n % m < m := ⟨Int.emod_nonneg n (by omega), Int.emod_lt_of_pos n hm⟩
  obtain ⟨g, eg⟩ : ∃ g, g = n % m := ⟨_, rfl⟩
  rw [← eg] at hr3 hr4 ⊢
  have e1 : IntKind.i64.wrap (n.tmod m) = r := by rw [← er]; exact IntWalk.i64_in _ (by omega)
  have e2 : IntKind.i64.wrap (r + m) = r + m := IntWalk.i64_in _ (by omega)
  have e3 : IntKind.i64.wrap ((r + m).tmod m) = g := by rw [hr3]; exact IntWalk.i64_in _ (by omega)
  have e4 : IntKind.i64.wrap r = r := IntWalk.i64_in _ (by omega)
  have e5 : IntKind.i64.wrap g = g := IntWalk.i64_in _ (by omega)
  have e0 : ¬ m = 0 := by omega
  have er' := er.symm
  clear eg er hr2 hr1 hr4 hm hm2
  go_enter Tryz.func113, Tryz.ntmps113
  go_wp2_with fail
  exact ⟨rfl, _, results_tmp rfl _ _ _, rfl, rfl⟩
/-- A hash built, under a name that the walk does not open. -/
def haBd (parts : Array (Nat × Value)) : Sem Value := Instr.build 35 parts
theorem haBd_eq (parts : Array (Nat × Value)) : Instr.build 35 parts = haBd parts := rfl
theorem bv_small {q : Int} (h0 : 0 ≤ q) (h1 : q < 256) : bv (UInt8.ofNat q.toNat) = .int .u8 q := by
  unfold bv
  rw [UInt8.toNat_ofNat']
  congr 1
  omega
theorem haBd_two (n : Int) (W : World) : (haBd #[(0, .int .u8 (n % 8)), (1, .int .u8 9)]).run Tryz.prog W = .ok (.agg ((headI n).root.map bv).toArray) W := by
  have e : (headI n).root.map bv = .int .u8 (n % 8) :: .int .u8 9 :: List.replicate 30 (.int .u8 0) := by
    unfold headI
    simp only [List.map_cons, List.map_replicate]
    rw [bv_small (by omega) (by omega)]
    rfl
  rw [e]
  exact run_build (P := Tryz.prog) W 35 _ _ (by kernel_rfl)
set_option maxRecDepth 100000 in
theorem hdBd_built (n : Int) : ∀ (l : List UInt8), l.length = 32 → Tryz.prog.built 37 [(0, .int .i64 n), (1, .agg (l.map bv).toArray)] = some (hdC ⟨n, l⟩).toArray
  | [x0, x1, x2, x3, x4, x5, x6, x7, x8, x9, x10, x11, x12, x13, x14, x15, x16, x17, x18, x19, x20, x21, x22, x23, x24, x25, x26, x27, x28, x29, x30, x31], _ => by kernel_rfl
theorem hdBd_run (n : Int) (l : List UInt8) (hl : l.length = 32) (W : World) : (hdBd #[(0, .int .i64 n), (1, .agg (l.map bv).toArray)]).run Tryz.prog W = .ok (.agg (hdC ⟨n, l⟩).toArray) W :=
  run_build (P := Tryz.prog) W 37 _ _ (hdBd_built n l hl)
attribute [local go_sem ↓ high] haBd_eq
set_option maxRecDepth 100000 in
set_option maxHeartbeats 1000000 in
theorem rhead_any (n : Int) (hn : In n) (w : World) : Calls Tryz.prog 112 #[.int .i64 n] w fun e w' => e = .returned (.agg (hdC (headI n)).toArray) ∧ Only NoneOf w w' := by
  have hmd : ∀ W, Calls Tryz.prog 113 #[.int .i64 n, .int .i64 8] W fun e w' => e = .returned (.int .i64 (n % 8)) ∧ w' = W := fun W => rmod29_any n 8 hn (by omega) (by omega) W
  have hha := haBd_two n
  obtain ⟨q, eq⟩ : ∃ q, q = n % 8 := ⟨_, rfl⟩
  have hq : 0 ≤ q ∧ q < 8 := by omega
  obtain ⟨R, eR⟩ : ∃ R, R = (headI n).root := ⟨_, rfl⟩
  have hRl : R.length = 32 := by rw [eR]; exact (headI_ok n).root
  have hhd : headI n = ⟨q / 2, R⟩ := by rw [eR, eq]; rfl
  rw [← eq] at hmd hha
  rw [← eR] at hha
  rw [hhd]
  have hhb := hdBd_run (q / 2) R hRl
  have kw1 : IntKind.u8.wrap q = q := by rw [IntKind.wrap_u8]; omega
  have kw2 : q.tdiv 2 = q / 2 := Int.tdiv_eq_ediv_of_nonneg hq.1
  have kw3 : IntKind.i64.wrap (q / 2) = q / 2 := IntWalk.i64_in _ (by omega)
  obtain ⟨z, ez⟩ : ∃ z, z = q / 2 := ⟨_, rfl⟩
  rw [← ez] at hhb kw2 kw3 ⊢
  have hb0 : Blk (w.alloc (.cells hd0C 37)) w.heap.size tHd hd0C := Blk.new w _ _
  have hst := hd_store (h := ⟨z, R⟩) hb0 rfl hRl
  have h3 := filled_whole (ds := hdC ⟨z, R⟩) hb0 (by rw [hdC_len hRl]; rfl)
  have h4 : Only NoneOf w ((w.alloc (.cells hd0C 37)).setCells w.heap.size 0 (hdC ⟨z, R⟩)) := only_setCells ((Only.refl _ _).alloc _) w.heap.size 0 (.inr (Nat.le_refl _)) _
  have hinf : (Tryz.prog.info? tHd).map (·.size) = some (hdC ⟨z, R⟩).toArray.size := by rw [List.size_toArray, hdC_len hRl]; kernel_rfl
  have hnw := hdNew_run
  have HMD := Lib.hid hmd
  have H3 := Lib.hid h3
  have H4 := Lib.hid h4
  have HINF := Lib.hid hinf
  clear hmd h3 h4 hinf hb0 hhd eR eq ez hq
  go_enter Tryz.func112, Tryz.ntmps112
  go_wp2_with fail
  refine (HMD.out _).mono ?_
  rintro e1 w1 ⟨rfl, rfl⟩
  go_wp2_with fail
  refine (HMD.out _).mono ?_
  rintro e2 w2 ⟨rfl, rfl⟩
  go_wp2_with fail
  exact bodyPost_ret (v := .agg (hdC ⟨z, R⟩).toArray) (results_blk rfl rfl H3.out Tryz.underlying37 rfl HINF.out) rfl ⟨rfl, H4.out⟩
end Go.Proofs.YtgalfohobgjelaaGreatDoor
namespace Go.Proofs.YtgalfohobgjelaaGreatDoor
open Go.RowKit Go.Shelf
attribute [local go_sem ↓ high] hdLoad_eq hdNew_eq hdStore_eq vtLoad_eq vtNew_eq vtStore_eq
abbrev tBal : TypeId := 128
/-- What lies there before the vote is made. -/
structure BvA (w : World) (B N : Nat) (b : Bal) (h : Hd) (W : World) : Prop where
  bal : Blk W B tBal (balC b).toArray
  res : Blk W (B + 1) tVt vt0C
  hd : HdAt W N h
  only : Only NoneOf w W
/-- .. where N0 blocks were there when it began. -/
structure BvT (w : World) (B N N0 : Nat) (b : Bal) (h : Hd) (W : World) : Prop where
  a : BvA w B N b h W
  n : N0 ≤ W.heap.size
theorem BvA.keep {w : World} {B N : Nat} {b : Bal} {h : Hd} {W W' : World} (hS : BvA w B N b h W) (ho : Only NoneOf W W') : BvA w B N b h W' :=
  ⟨hS.bal.only ho (fun e => e), hS.res.only ho (fun e => e), Blk.only hS.hd ho (fun e => e), hS.only.trans ho⟩
theorem BvA.far {w : World} {B N : Nat} {b : Bal} {h : Hd} {W : World} {M : Nat} (hS : BvA w B N b h W) (hM : B + 1 < M ∧ N < M) (hwB : w.heap.size ≤ B) (i : Nat) (vs : List Value) : BvA w B N b h (W.setCells M i vs) :=
  ⟨hS.bal.farCells (by omega) vs i, hS.res.farCells (by omega) vs i, Blk.farCells (by omega) vs i hS.hd, only_setCells hS.only M i (.inr (by omega)) vs⟩
/-- What lies there once the vote is made. -/
structure BvS (w : World) (B N M : Nat) (b : Bal) (h : Hd) (v : Vt) (W : World) : Prop where
  a : BvA w B N b h W
  vt : VtAt W M v
/-- .. with some vote in its place. -/
def BvX (w : World) (B N M : Nat) (b : Bal) (h : Hd) (W : World) : Prop := ∃ v : Vt, v.head.root.length = 32 ∧ BvS w B N M b h v W
theorem BvX.keep {w : World} {B N M : Nat} {b : Bal} {h : Hd} {W W' : World} (hS : BvX w B N M b h W) (ho : Only NoneOf W W') : BvX w B N M b h W' := by
  obtain ⟨v, hv, h1⟩ := hS
  exact ⟨v, hv, h1.a.keep ho, Blk.only h1.vt ho (fun e => e)⟩
theorem BvS.put {w : World} {B N M : Nat} {b : Bal} {h : Hd} {v u : Vt} {W : World} (hS : BvS w B N M b h v W) (hM : B + 1 < M ∧ N < M) (hwB : w.heap.size ≤ B) (hv : v.head.root.length = 32) (hu : u.head.root.length = 32) : BvS w B N M b h u (W.setCells M 0 (vtC u)) :=
  ⟨hS.a.far hM hwB 0 _, filled_whole hS.vt (by rw [List.size_toArray, vtC_len hv, vtC_len hu])⟩
/-- Another head in the vote. -/
theorem vtC_head (v : Vt) (h : Hd) (hv : v.head.root.length = 32) (hh : h.root.length = 32) : setMany (vtC v) 1 (hdC h) = vtC { v with head := h } := by
  rw [setMany_eq _ _ _ (by rw [hdC_len hh, vtC_len hv]; omega), hdC_len hh]
  unfold vtC
  rw [show (1 : Nat) + 33 = 33 + 1 from rfl, List.drop_succ_cons, List.drop_append_of_le_length (by rw [hdC_len hv]; exact Nat.le_refl _), List.drop_of_length_le (by rw [hdC_len hv]; exact Nat.le_refl _)]
  simp
theorem vtC_s (v : Vt) (s : Int) (hv : v.head.root.length = 32) : (vtC v).set 35 (.int .i64 s) = vtC { v with s := s } := by
  unfold vtC
  rw [show (35 : Nat) = 34 + 1 from rfl, List.set_cons_succ, List.set_append_right _ _ (by rw [hdC_len hv]; omega), hdC_len hv]
  rfl
theorem BvS.head {w : World} {B N M : Nat} {b : Bal} {h g : Hd} {v : Vt} {W : World} (hS : BvS w B N M b h v W) (hM : B + 1 < M ∧ N < M) (hwB : w.heap.size ≤ B) (hv : v.head.root.length = 32) (hg : g.root.length = 32) : BvS w B N M b h { v with head := g } (W.setCells M 1 (hdC g)) := by
  refine ⟨hS.a.far hM hwB 1 _, ?_⟩
  have h1 := Blk.setCells (hdC g) 1 hS.vt
  rw [vtC_head v g hv hg] at h1
  exact h1
theorem BvS.s {w : World} {B N M : Nat} {b : Bal} {h : Hd} {v : Vt} {W : World} (hS : BvS w B N M b h v W) (hM : B + 1 < M ∧ N < M) (hwB : w.heap.size ≤ B) (hv : v.head.root.length = 32) (s : Int) : BvS w B N M b h { v with s := s } (W.setCell ⟨M, 35, none⟩ (.int .i64 s)) := by
  refine ⟨hS.a.far hM hwB 35 [.int .i64 s], ?_⟩
  have h1 := Blk.set_ hS.vt 35 (.int .i64 s)
  rw [List.setIfInBounds_toArray, vtC_s v s hv] at h1
  exact h1
theorem vt_store_new (W : World) {v : Vt} (hl : v.head.root.length = 32) : (vtStore (.pointer (some ⟨W.heap.size, 0, none⟩)) (.agg (vtC v).toArray)).run Tryz.prog (W.alloc (.cells vt0C 43)) = .ok () ((W.alloc (.cells vt0C 43)).setCells W.heap.size 0 (vtC v)) := vt_store (Blk.new W tVt vt0C) rfl hl
theorem vtNewB (W : World) : Blk (W.alloc (.cells vt0C 43)) W.heap.size tVt vt0C := Blk.new W _ _
theorem vtNewBd (W : World) : Blk (W.alloc (.cells vt0C 43)).drew W.heap.size tVt vt0C := Blk.new W _ _
theorem hd_store_mid {W : World} {b o : Nat} {cs : Array Value} {t : TypeId} {h : Hd} (hb : Blk W b t cs) (hs : o + 33 ≤ cs.size) (hl : h.root.length = 32) : (hdStore (.pointer (some ⟨b, o, none⟩)) (.agg (hdC h).toArray)).run Tryz.prog W = .ok () (W.setCells b o (hdC h)) :=
  run_storeAt_mid (P := Tryz.prog) W b o 37 (hdC h).toArray (hb.there o _ (by rw [List.size_toArray, hdC_len hl]; exact hs)) (by rw [List.size_toArray, hdC_len hl]; kernel_rfl) (all_oneCell_toArray (hdC_one h))
set_option maxRecDepth 100000 in
set_option maxHeartbeats 4000000 in
theorem bal_any (b : Bal) (ok : b.Ok) (w : World) : Calls Tryz.prog 65 #[.agg (balC b).toArray] w fun e w' => e = .returned (.agg (vtC (balV b)).toArray) ∧ Only NoneOf w w' := by
  obtain ⟨B, eB⟩ : ∃ B, B = w.heap.size := ⟨_, rfl⟩
  have hwB : w.heap.size ≤ B := by omega
  obtain ⟨who, ewho⟩ : ∃ x, x = balWho b := ⟨_, rfl⟩
  have hwho : 0 ≤ who ∧ who ≤ 15 := by rw [ewho]; exact balWho_in b
  have hiw : In who := ⟨by omega, by omega⟩
  obtain ⟨h, eh⟩ : ∃ h, h = headI b.head := ⟨_, rfl⟩
  have hok : h.Ok := by rw [eh]; exact headI_ok _
  have hl := hok.root
  obtain ⟨g, eg⟩ : ∃ g, g = headI ((b.head : Int) + 1) := ⟨_, rfl⟩
  have hgl : g.root.length = 32 := by rw [eg]; exact (headI_ok _).root
  obtain ⟨V, eV⟩ : ∃ V, V = voteOf who (secI who) h := ⟨_, rfl⟩
  have hVl : V.head.root.length = 32 := by rw [eV]; exact hl
  have hVo : V.Ok := by rw [eV]; exact vote_ok hiw hok
  obtain ⟨U, eU⟩ : ∃ U, U = voteOf who (secI (who + 1)) h := ⟨_, rfl⟩
  have hUl : U.head.root.length = 32 := by rw [eU]; exact hl
  have hs1 : ∀ W, Calls Tryz.prog 39 #[.int .i64 who] W fun e w' => e = .returned (.int .i64 (secI who)) ∧ w' = W := fun W => secret_any who (by omega) (by omega) W
  have hs2 : ∀ W, Calls Tryz.prog 39 #[.int .i64 (who + 1)] W fun e w' => e = .returned (.int .i64 (secI (who + 1))) ∧ w' = W := fun W => secret_any (who + 1) (by omega) (by omega) W
  have hv1 : ∀ W, Calls Tryz.prog 41 #[.int .i64 who, .int .i64 (secI who), .agg (hdC h).toArray] W fun e w' => e = .returned (.agg (vtC V).toArray) ∧ Only NoneOf W w' := fun W => by rw [eV]; exact rqvote_any who (secI who) h hok W
  have hv2 : ∀ W, Calls Tryz.prog 41 #[.int .i64 who, .int .i64 (secI (who + 1)), .agg (hdC h).toArray] W fun e w' => e = .returned (.agg (vtC U).toArray) ∧ Only NoneOf W w' := fun W => by rw [eU]; exact rqvote_any who (secI (who + 1)) h hok W
  have hbh := ok.head
  have hh1 : ∀ W, Calls Tryz.prog 112 #[.int .i64 (b.head : Int)] W fun e w' => e = .returned (.agg (hdC h).toArray) ∧ Only NoneOf W w' := fun W => by rw [eh]; exact rhead_any _ ⟨by omega, by omega⟩ W
  have hh2 : ∀ W, Calls Tryz.prog 112 #[.int .i64 ((b.head : Int) + 1)] W fun e w' => e = .returned (.agg (hdC g).toArray) ∧ Only NoneOf W w' := fun W => by rw [eg]; exact rhead_any _ ⟨by omega, by omega⟩ W
  have hmd : ∀ W, Calls Tryz.prog 113 #[.int .i64 (V.s + 1), .int .i64 1152921504606845789] W fun e w' => e = .returned (.int .i64 ((V.s + 1) % 1152921504606845789)) ∧ w' = W := fun W => by
    have h1 := sigS_lt (secI who) (hdText h) (nonce (expo (secI who)) (hdText h))
    have h2 := Q0_val
    have h3 : V.s = (sigS (secI who) (hdText h) (nonce (expo (secI who)) (hdText h)) : Int) := by rw [eV]; rfl
    exact rmod29_any (V.s + 1) 1152921504606845789 ⟨by omega, by omega⟩ (by omega) (by omega) W
  have hs1b : -9223372036854775808 ≤ V.s + 1 ∧ V.s + 1 ≤ 9223372036854775807 := by
    have h1 := sigS_lt (secI who) (hdText h) (nonce (expo (secI who)) (hdText h))
    have h2 := Q0_val
    have h3 : V.s = (sigS (secI who) (hdText h) (nonce (expo (secI who)) (hdText h)) : Int) := by rw [eV]; rfl
    omega
  obtain ⟨wm, ewm⟩ : ∃ m : Nat, m = b.wrong % 12 := ⟨_, rfl⟩
  have hfin : balV b = (if wm = 1 then U else if wm = 2 then { V with head := g } else if wm = 3 then { V with s := (V.s + 1) % 1152921504606845789 } else V) := by
    rw [ewm, eV, eU, eh, eg, ewho]
    unfold balV
    split
    · rename_i e; rw [if_pos e]
    · rename_i e; rw [if_neg (by omega), if_pos e]
    · rename_i e; rw [if_neg (by omega), if_neg (by omega), if_pos e]
    · rename_i e1 e2 e3; rw [if_neg e1, if_neg e2, if_neg e3]
  have hbV : (balV b).head.root.length = 32 := (balV_ok b).head.root
  have kt1 : ((b.who : Int).tmod 16) = who := by rw [ewho, Int.tmod_eq_emod_of_nonneg (by omega)]; unfold balWho; omega
  have kt2 : ((b.wrong : Int).tmod 12) = (wm : Int) := by rw [ewm, Int.tmod_eq_emod_of_nonneg (by omega)]; omega
  have hwm : wm < 12 := by omega
  have kw1 : IntKind.u8.wrap who = who := by rw [IntKind.wrap_u8]; omega
  have kw2 : IntKind.u8.wrap (wm : Int) = (wm : Int) := by rw [IntKind.wrap_u8]; omega
  have kw3 : IntKind.i64.wrap who = who := IntWalk.i64_in _ (by omega)
  have kw4 : IntKind.i64.wrap (who + 1) = who + 1 := IntWalk.i64_in _ (by omega)
  have kw5 : IntKind.i64.wrap (b.head : Int) = (b.head : Int) := IntWalk.i64_in _ (by omega)
  have kw6 : IntKind.i64.wrap ((b.head : Int) + 1) = (b.head : Int) + 1 := IntWalk.i64_in _ (by omega)
  have kw7 : IntKind.i64.wrap (V.s + 1) = V.s + 1 := IntWalk.i64_in _ hs1b
  have hb0 : Blk ((w.alloc (.cells (balC b).toArray 128)).alloc (.cells vt0C 43)) B tBal (balC b).toArray := by rw [eB]; exact (Blk.new w _ _).alloc _
  have hb1 : Blk ((w.alloc (.cells (balC b).toArray 128)).alloc (.cells vt0C 43)) (B + 1) tVt vt0C := by
    have h2 := Blk.new (w.alloc (.cells (balC b).toArray 128)) tVt vt0C
    rw [World.size_alloc, ← eB] at h2
    exact h2
  have hO0 : Only NoneOf w ((w.alloc (.cells (balC b).toArray 128)).alloc (.cells vt0C 43)) := ((Only.refl _ _).alloc _).alloc _
  have hnw := vtNew_run
  have hnh := hdNew_run
  have HS1 := Lib.hid hs1
  have HS2 := Lib.hid hs2
  have HV1 := Lib.hid hv1
  have HV2 := Lib.hid hv2
  have HH1 := Lib.hid hh1
  have HH2 := Lib.hid hh2
  have HMD := Lib.hid hmd
  have HFIN := Lib.hid hfin
  have HB0 := Lib.hid hb0
  have HB1 := Lib.hid hb1
  have HO0 := Lib.hid hO0
  have EB := Lib.hid eB
  have HBV := Lib.hid hbV
  have HVO := Lib.hid hVo
  clear hs1 hs2 hv1 hv2 hh1 hh2 hmd hfin hb0 hb1 hO0 eB eV eU eh eg ewho ewm hbV hVo hok
  go_enter Tryz.func65, Tryz.ntmps65
  go_upto_region 1 with (fail)
  rw [← EB.out]
  refine wp_gen (fun Y => Blk Y B tBal (balC b).toArray ∧ Blk Y (B + 1) tVt vt0C ∧ Only NoneOf w Y) ⟨HB0.out, HB1.out, HO0.out⟩ ?_
  rintro Y ⟨y0, y1, y2⟩
  have c0 : Y.cell? ⟨B, 0, none⟩ = some (.int .u8 (b.who : Int)) := y0.cell 0
  have c1 : Y.cell? ⟨B, 1, none⟩ = some (.int .u8 (b.head : Int)) := y0.cell 1
  have HY := Lib.hid (And.intro y0 (And.intro y1 y2))
  clear y0 y1 y2 HB0 HB1 HO0 EB
  go_wp2_with fail
  refine (HH1.out _).mono ?_
  rintro e1 w1 ⟨rfl, ho1⟩
  obtain ⟨N, eN⟩ : ∃ N, N = w1.heap.size := ⟨_, rfl⟩
  have hn0 : Blk (w1.alloc (.cells hd0C 37)) N tHd hd0C := by rw [eN]; exact Blk.new w1 _ _
  have hst := hd_store (h := h) hn0 rfl hl
  rw [eN] at hst
  have hA1 : BvA w B N b h ((w1.alloc (.cells hd0C 37)).setCells N 0 (hdC h)) := by
    have hO3 : Only NoneOf w1 ((w1.alloc (.cells hd0C 37)).setCells N 0 (hdC h)) := only_setCells ((Only.refl _ _).alloc _) N 0 (.inr (by omega)) _
    have ho4 := ho1.trans hO3
    exact ⟨HY.out.1.only ho4 (fun e => e), HY.out.2.1.only ho4 (fun e => e), filled_whole hn0 (by rw [hdC_len hl]; rfl), HY.out.2.2.trans ho4⟩
  have HA1 := Lib.hid hA1
  have EN := Lib.hid eN
  clear hA1 hn0 eN ho1 HY c0 c1 HH1
  go_upto_region 3 with (fail)
  rw [← EN.out]
  refine wp_gen (BvA w B N b h) HA1.out ?_
  intro Z hZ
  clear hst HA1 EN
  obtain ⟨N0, eN0⟩ : ∃ n, n = Z.heap.size := ⟨_, rfl⟩
  have hN : B + 1 < N0 ∧ N < N0 := by have h1 := hZ.res.lt; have h2 := Blk.lt hZ.hd; omega
  have hS : BvT w B N N0 b h Z.drew := ⟨hZ.keep (Only.refl _ _).drew, Nat.le_of_eq eN0⟩
  have l1 : ∀ W, BvT w B N N0 b h W → (hdLoad (.pointer (some ⟨N, 0, none⟩))).run Tryz.prog W = .ok (.agg (hdC h).toArray) W := fun W hW => hd_load (blk_range hW.a.hd) hl
  have hstA := fun W => vt_store_new W hVl
  have HAL : Hid (∀ W o, BvT w B N N0 b h W → BvT w B N N0 b h (W.alloc o)) := Lib.hid (fun W o hW => ⟨hW.a.keep ((Only.refl _ _).alloc o), by rw [World.size_alloc]; have := hW.n; omega⟩)
  have HALD : Hid (∀ (W : World) o, BvT w B N N0 b h W.drew → BvT w B N N0 b h (W.alloc o).drew) := Lib.hid (fun W o hW => ⟨hW.a.keep ((Only.refl _ W.drew).alloc o), by show N0 ≤ (W.alloc o).heap.size; rw [World.size_alloc]; have : N0 ≤ W.heap.size := hW.n; omega⟩)
  have HKP : Hid (∀ W W', BvT w B N N0 b h W → Only NoneOf W W' → BvT w B N N0 b h W') := Lib.hid (fun W W' hW ho => ⟨hW.a.keep ho, Nat.le_trans hW.n ho.size⟩)
  have HFAR : Hid (∀ W M vs, BvT w B N N0 b h W → N0 ≤ M → BvT w B N N0 b h (W.setCells M 0 vs)) := Lib.hid (fun W M vs hW hM => ⟨hW.a.far (by omega) hwB 0 vs, by rw [setCells_size]; exact hW.n⟩)
  have HFN : Hid (∀ W M, BvT w B N N0 b h W → N0 ≤ M → Blk W M tVt vt0C → BvS w B N M b h V (W.setCells M 0 (vtC V)) ∧ B + 1 < M ∧ N < M) := Lib.hid (fun W M hW hM hb => ⟨⟨hW.a.far (by omega) hwB 0 _, filled_whole hb (by rw [vtC_len hVl]; rfl)⟩, by omega⟩)
  have HN0 : Hid (∀ W, BvT w B N N0 b h W → N0 ≤ W.heap.size) := Lib.hid (fun W hW => hW.n)
  have HEN := Lib.hid eN0
  clear hZ eN0 hN
  go_cut [5] (fun p wx => ∃ M, p = .pointer (some ⟨M, 0, none⟩) ∧ BvS w B N M b h V wx ∧ B + 1 < M ∧ N < M)
  case first =>
    go_region_held3 (fun W => BvT w B N N0 b h W) (first | (with_reducible assumption) | (with_reducible exact HAL.out _ _ (by with_reducible assumption)) | (with_reducible exact HALD.out _ _ (by with_reducible assumption)) | (with_reducible exact HFAR.out _ _ _ (by with_reducible assumption) (by first | exact Nat.le_of_eq HEN.out | (with_reducible exact HN0.out _ (by with_reducible assumption)))))
      (first
        | (go_at_call 39; refine (HS1.out _).mono ?_; rintro e4 w4 ⟨rfl, rfl⟩)
        | (go_at_call 41; refine (HV1.out _).mono ?_; rintro e2 w2 ⟨rfl, ho2⟩; have hS2 := HKP.out _ _ (by first | (with_reducible assumption) | (with_reducible exact HAL.out _ _ (by with_reducible assumption)) | (with_reducible exact HALD.out _ _ (by with_reducible assumption))) ho2; (first | (have hb2 := Blk.only (vtNewB _) ho2 (fun e => e); have hst2 := vt_store hb2 rfl hVl) | (have hb2 := Blk.only (vtNewBd _) ho2 (fun e => e); have hst2 := vt_store hb2 rfl hVl) | skip); clear ho2))
    all_goals
      go_wp2_with fail
      go_meet
      case rel => exact ⟨_, rfl, HFN.out _ _ (by first | (with_reducible assumption) | (with_reducible exact HAL.out _ _ (by with_reducible assumption)) | (with_reducible exact HALD.out _ _ (by with_reducible assumption))) (by first | exact Nat.le_of_eq HEN.out | (with_reducible exact HN0.out _ (by with_reducible assumption))) (by first | exact hb2 | exact vtNewB _)⟩
  case rest =>
  obtain ⟨M, rfl, hSv, hM1, hM2⟩ := hcut
  clear hS l1 hstA HAL HALD HKP HFAR HFN HN0 HEN hnw hnh
  have c2 : wc.cell? ⟨B, 2, none⟩ = some (.int .u8 (b.wrong : Int)) := hSv.a.bal.cell 2
  have c1 : wc.cell? ⟨B, 1, none⟩ = some (.int .u8 (b.head : Int)) := hSv.a.bal.cell 1
  have HSV := Lib.hid hSv
  clear hSv
  go_upto_region 5 with (fail)
  have HEND : Hid (∀ W, BvS w B N M b h (balV b) W → (vtLoad (.pointer (some ⟨M, 0, none⟩))).run Tryz.prog W = .ok (.agg (vtC (balV b)).toArray) W ∧ (vtStore (.pointer (some ⟨B + 1, 0, none⟩)) (.agg (vtC (balV b)).toArray)).run Tryz.prog W = .ok () (W.setCells (B + 1) 0 (vtC (balV b))) ∧ VtAt (W.setCells (B + 1) 0 (vtC (balV b))) (B + 1) (balV b) ∧ Only NoneOf w (W.setCells (B + 1) 0 (vtC (balV b)))) := Lib.hid (fun W hW => ⟨vt_load (blk_range hW.vt) HBV.out, vt_store hW.a.res rfl HBV.out, filled_whole hW.a.res (by rw [vtC_len HBV.out]; rfl), only_setCells hW.a.only (B + 1) 0 (.inr (by omega)) _⟩)
  have HI : Hid ((Tryz.prog.info? tVt).map (·.size) = some (vtC (balV b)).toArray.size) := Lib.hid (by rw [List.size_toArray, vtC_len HBV.out]; kernel_rfl)
  have HX2 : Hid (∀ W o, BvS w B N M b h V W → BvS w B N M b h V (W.drewN o)) := Lib.hid (fun W o hW => ⟨hW.a.keep ((Only.refl _ _).drewN o), Blk.drewN hW.vt o⟩)
  by_cases e1 : wm = 1
  · have i1 : ((wm : Int) == 1) = true := by simp [e1]
    have hUe : U = balV b := by rw [HFIN.out, if_pos e1]
    have HUE := Lib.hid hUe
    clear hUe e1
    have l1 : ∀ W, BvX w B N M b h W → (hdLoad (.pointer (some ⟨N, 0, none⟩))).run Tryz.prog W = .ok (.agg (hdC h).toArray) W := fun W ⟨_, _, hW⟩ => hd_load (blk_range hW.a.hd) hl
    have hstA : ∀ W, BvX w B N M b h W → (vtStore (.pointer (some ⟨M, 0, none⟩)) (.agg (vtC U).toArray)).run Tryz.prog W = .ok () (W.setCells M 0 (vtC U)) := fun W ⟨v, hv, hW⟩ => vt_store hW.vt (by rw [List.size_toArray, vtC_len hv]) hUl
    have HKP : Hid (∀ W W', BvX w B N M b h W → Only NoneOf W W' → BvX w B N M b h W') := Lib.hid (fun W W' hW ho => hW.keep ho)
    have HFN : Hid (∀ W, BvX w B N M b h W → BvS w B N M b h U (W.setCells M 0 (vtC U))) := Lib.hid (fun W ⟨v, hv, hW⟩ => hW.put ⟨hM1, hM2⟩ hwB hv hUl)
    have HSX : Hid (∀ W, BvX w B N M b h W → BvX w B N M b h (W.setCells M 0 (vtC U))) := Lib.hid (fun W hW => ⟨U, hUl, HFN.out W hW⟩)
    have hS := HKP.out _ _ ⟨V, hVl, HSV.out⟩ (Only.refl _ _).drew
    clear c1
    go_upto_region 6 with (fail)
    go_region_held3 (fun W => BvX w B N M b h W) (first | (with_reducible assumption) | (with_reducible exact HSX.out _ (by with_reducible assumption)))
      (first
        | (go_at_call 39; refine (HS2.out _).mono ?_; rintro e4 w4 ⟨rfl, rfl⟩)
        | (go_at_call 41; refine (HV2.out _).mono ?_; rintro e2 w2 ⟨rfl, ho2⟩; have hS2 := HKP.out _ _ (by with_reducible assumption) ho2; clear ho2))
    have hB := HFN.out _ hS2
    rw [HUE.out] at hB
    obtain ⟨f1, f2, f3, f4⟩ := HEND.out _ hB
    rw [← HUE.out] at f1 f2
    have F3 := Lib.hid f3
    have F4 := Lib.hid f4
    clear f3 f4 hB hS2 hS l1 hstA
    rw [← HUE.out] at F3 F4 HI
    go_wp2_with fail
    exact bodyPost_ret (v := .agg (vtC U).toArray) (results_blk rfl rfl F3.out Tryz.underlying43 rfl HI.out) rfl ⟨by rw [HUE.out], F4.out⟩
  · have i1 : ((wm : Int) == 1) = false := by simp; omega
    by_cases e2 : wm = 2
    · have i2 : ((wm : Int) == 2) = true := by simp [e2]
      have hUe : balV b = { V with head := g } := by rw [HFIN.out, if_neg e1, if_pos e2]
      have HUE := Lib.hid hUe
      rw [hUe] at HEND HI HBV
      clear hUe e1 e2
      go_wp2_with fail
      refine (HH2.out _).mono ?_
      rintro e3 w3 ⟨rfl, ho3⟩
      have hS3 : BvS w B N M b h V w3 := ⟨HSV.out.a.keep ho3, Blk.only HSV.out.vt ho3 (fun e => e)⟩
      have hstm := hd_store_mid (o := 1) (h := g) hS3.vt (by rw [List.size_toArray, vtC_len hVl]; omega) hgl
      have hB := hS3.head ⟨hM1, hM2⟩ hwB hVl hgl
      obtain ⟨f1, f2, f3, f4⟩ := HEND.out _ hB
      have F3 := Lib.hid f3
      have F4 := Lib.hid f4
      clear f3 f4 hB hS3 ho3 c1 c2
      go_wp2_with fail
      exact bodyPost_ret (v := .agg (vtC { V with head := g }).toArray) (results_blk rfl rfl F3.out Tryz.underlying43 rfl HI.out) rfl ⟨by rw [HUE.out], F4.out⟩
    · have i2 : ((wm : Int) == 2) = false := by simp; omega
      by_cases e3 : wm = 3
      · have i3 : ((wm : Int) == 3) = true := by simp [e3]
        have hUe : balV b = { V with s := (V.s + 1) % 1152921504606845789 } := by rw [HFIN.out, if_neg e1, if_neg e2, if_pos e3]
        have HUE := Lib.hid hUe
        rw [hUe] at HEND HI HBV
        clear hUe e1 e2 e3
        have c35 : wc.cell? ⟨M, 35, none⟩ = some (.int .i64 V.s) := blk_range HSV.out.vt 35 _ (by
          have := vtC_s V V.s hVl
          have h2 := congrArg (fun l => l[35]?) this
          simp only [List.getElem?_set_self (show 35 < (vtC V).length by rw [vtC_len hVl]; omega)] at h2
          exact h2.symm)
        have f35 := Blk.frozen HSV.out.vt 35
        have hB := HSV.out.s ⟨hM1, hM2⟩ hwB hVl ((V.s + 1) % 1152921504606845789)
        obtain ⟨f1, f2, f3, f4⟩ := HEND.out _ hB
        have F3 := Lib.hid f3
        have F4 := Lib.hid f4
        clear f3 f4 hB c1
        go_wp2_with fail
        refine (HMD.out _).mono ?_
        rintro e3 w3 ⟨rfl, rfl⟩
        go_wp2_with fail
        exact bodyPost_ret (v := .agg (vtC { V with s := (V.s + 1) % 1152921504606845789 }).toArray) (results_blk rfl rfl F3.out Tryz.underlying43 rfl HI.out) rfl ⟨by rw [HUE.out], F4.out⟩
      · have i3 : ((wm : Int) == 3) = false := by simp; omega
        have hUe : balV b = V := by rw [HFIN.out, if_neg e1, if_neg e2, if_neg e3]
        have HUE := Lib.hid hUe
        rw [hUe] at HEND HI HBV
        clear hUe e1 e2 e3 c1
        obtain ⟨f1, f2, f3, f4⟩ := HEND.out _ HSV.out
        have F3 := Lib.hid f3
        have F4 := Lib.hid f4
        clear f3 f4
        go_wp2_with fail
        exact bodyPost_ret (v := .agg (vtC V).toArray) (results_blk rfl rfl F3.out Tryz.underlying43 rfl HI.out) rfl ⟨by rw [HUE.out], F4.out⟩
end Go.Proofs.YtgalfohobgjelaaGreatDoor
namespace Go.Proofs.YtgalfohobgjelaaGreatDoor
open Go.RowKit Go.Shelf
attribute [local go_sem ↓ high] vtBs1_eq
/-- A slice that reads as these ballots. -/
def BalSl (w : World) (v : Value) (L : List Bal) : Prop :=
  ∃ A cap, v = .slice A L.length cap ∧ L.length ≤ cap ∧ cap ≤ 9223372036854775807 ∧ ∀ (i : Nat) (b : Bal), L[i]? = some b → ∃ g o, A = some ⟨g, o, none⟩ ∧ g < w.heap.size ∧ w.rangeAt g (o + i * 3) (balC b)
theorem BalSl.only {w w' : World} {v : Value} {L : List Bal} (h : BalSl w v L) (ho : Only NoneOf w w') : BalSl w' v L := by
  obtain ⟨A, cap, hv, h1, h2, h3⟩ := h
  refine ⟨A, cap, hv, h1, h2, fun i p hp => ?_⟩
  obtain ⟨g, o, hA, hg, hr⟩ := h3 i p hp
  exact ⟨g, o, hA, Nat.lt_of_lt_of_le hg ho.size, rng_only hr ho⟩
/-- What the loop keeps. -/
structure VsS (w : World) (L : List Bal) (k : Nat) (ov : Value) (W : World) : Prop where
  own : VtOwn W w.heap.size ov k ((L.take k).map balV)
  only : Only NoneOf w W
set_option maxRecDepth 100000 in
set_option maxHeartbeats 4000000 in
theorem rvotes_any (L : List Bal) (hok : BalsOk L) (sv : Value) (w : World) (hs : BalSl w sv L) : Calls Tryz.prog 34 #[sv] w fun e w' => ∃ rv, e = .returned rv ∧ VtOwn w' w.heap.size rv (votesL L).length (votesL L) ∧ Only NoneOf w w' := by
  obtain ⟨ie, z, hie, hsz, hz, hzc, hby⟩ := vt_info
  obtain ⟨A, cap, rfl, hlc, hcm, hA⟩ := hs
  have HA := Lib.hid hA
  have HOK := Lib.hid hok
  have HIE := Lib.hid hie
  have HSZ := Lib.hid hsz
  have HZ := Lib.hid hz
  have HZC := Lib.hid hzc
  have HBY := Lib.hid hby
  have hs0 : VsS w L 0 (.slice none 0 0) w := ⟨⟨rfl, .inl ⟨rfl, rfl⟩⟩, Only.refl _ _⟩
  have HS0 := Lib.hid hs0
  clear hA hok hie hsz hz hzc hby hs0
  go_enter Tryz.func34, Tryz.ntmps34
  go_wp2_with fail
  go_loopw [3, 4] (fun ov i wr => ∃ k : Nat, i = .int .i64 k ∧ k ≤ L.length ∧ k ≤ 40 ∧ VsS w L k ov wr) (fun _ i _ => L.length - (intOf i).toNat)
  case atStart => exact ⟨0, rfl, Nat.zero_le _, by omega, HS0.out⟩
  case round =>
    obtain ⟨k, rfl, hk, hk40, hS⟩ := hrel
    by_cases hlt : k < L.length ∧ k < 40
    · obtain ⟨hlt, h40⟩ := hlt
      obtain ⟨b, hb⟩ : ∃ b, L[k]? = some b := ⟨_, List.getElem?_eq_getElem hlt⟩
      obtain ⟨g, o, hA', hg, hr⟩ := HA.out k b hb
      subst hA'
      have ok := HOK.out b (List.mem_of_getElem? hb)
      have hr2 := rng_only hr hS.only
      have d1 : decide ((k : Int) < (L.length : Int)) = true := decide_eq_true (by omega)
      have d2 : decide ((k : Int) < 40) = true := decide_eq_true (by omega)
      have ik : (k : Int) < (L.length : Int) := by omega
      have ik0 : (0 : Int) ≤ (k : Int) := by omega
      have c0 : wr.cell? ⟨g, o + k * 3, none⟩ = some (.int .u8 (b.who : Int)) := hr2 0 _ rfl
      have c1 : wr.cell? ⟨g, o + k * 3 + 1, none⟩ = some (.int .u8 (b.head : Int)) := hr2 1 _ rfl
      have c2 : wr.cell? ⟨g, o + k * 3 + 2, none⟩ = some (.int .u8 (b.wrong : Int)) := hr2 2 _ rfl
      obtain ⟨V, eV⟩ : ∃ V, V = balV b := ⟨_, rfl⟩
      have vo : V.Ok := by rw [eV]; exact balV_ok b
      have hbal : ∀ W, Calls Tryz.prog 65 #[.agg #[.int .u8 (b.who : Int), .int .u8 (b.head : Int), .int .u8 (b.wrong : Int)]] W fun e w' => e = .returned (.agg (vtC V).toArray) ∧ Only NoneOf W w' := fun W => by rw [eV]; exact bal_any b ok W
      have hbs := bs1_run V vo.head.root
      have htk : ((L.take (k + 1)).map balV).flatMap vtC = ((L.take k).map balV).flatMap vtC ++ vtC V := by
        rw [List.take_add_one, hb, Option.toList_some, List.map_append, List.flatMap_append, eV]
        simp
      have HS := Lib.hid hS
      have HBAL := Lib.hid hbal
      have HTK := Lib.hid htk
      have HVO := Lib.hid vo
      clear hS hbal htk eV hr hr2 ok hb vo
      go_wp2_with fail
      refine (HBAL.out _).mono ?_
      rintro e1 w1 ⟨rfl, ho1⟩
      have h1 : VsS w L k u3 w1 := ⟨own_only HS.out.own ho1 (fun _ _ e => e), HS.out.only.trans ho1⟩
      have hsz1 := h1.only.size
      have H1 := Lib.hid h1
      clear ho1 h1 c0 c1 c2
      go_wp2_with (at_builtin; refine wpList_append_lies _ rfl _ _ 32 rfl w.heap.size 43 ie z 36 ie.bytes Tryz.underlying32 HIE.out HZ.out HSZ.out rfl HZC.out (by omega) u3 k (((L.take k).map balV).flatMap vtC) rfl (World.ownsRow.alloc H1.out.own _) _ 1 1 (vtC V) rfl (by rw [vtC_len HVO.out.head.root]) (World.news_of_block (cs := (vtC V).toArray) (t := 43) (fr := (0, 0)) (NewB.new _ V)) (vtC_one V) (by omega) (by rw [maxLen_val]; omega) (by have := HBY.out; exact Nat.le_trans (Nat.mul_le_mul (show k + 1 ≤ 40 by omega) this) (by omega)) (by simp; omega) _ rfl ?_; intro g3 cap3 w3 hown3 hgrow3 hat3 hlt3)
      have hnew : VsS w L (k + 1) (.slice (some ⟨g3, 0, none⟩) (k + 1) cap3) w3 := by
        refine ⟨?_, (H1.out.only.alloc _).grown hgrow3 (fun j e => .inr (own_ge H1.out.own e).1)⟩
        unfold VtOwn
        rw [HTK.out]
        exact hown3
      have HNEW := Lib.hid hnew
      clear hnew hown3 hgrow3 hat3 hlt3 hbs
      go_wp2_with fail
      go_roundw
      case rel => exact ⟨k + 1, by go_num, by omega, by omega, HNEW.out⟩
      case measure => simp [intOf]; omega
    · have hfin : L.take k = L.take 40 := by
        by_cases h40 : k = 40
        · rw [h40]
        · have : k = L.length := by omega
          rw [this, List.take_length, List.take_of_length_le (by omega)]
      have hlv : (votesL L).length = k := by unfold votesL; rw [← hfin, List.length_map, List.length_take]; omega
      have hown := hS.own
      rw [hfin] at hown
      have HOWN : Hid (VtOwn wr w.heap.size u3 (votesL L).length (votesL L)) := Lib.hid (by rw [hlv]; exact hown)
      have HO := Lib.hid hS.only
      clear hS hown hfin hlv
      by_cases hl : k < L.length
      · have d1 : decide ((k : Int) < (L.length : Int)) = true := decide_eq_true (by omega)
        have d2 : decide ((k : Int) < 40) = false := decide_eq_false (by omega)
        go_wp2_with fail
        go_ret
        exact ⟨_, rfl, HOWN.out, HO.out⟩
      · have d1 : decide ((k : Int) < (L.length : Int)) = false := decide_eq_false (by omega)
        go_wp2_with fail
        go_ret
        exact ⟨_, rfl, HOWN.out, HO.out⟩
end Go.Proofs.YtgalfohobgjelaaGreatDoor
