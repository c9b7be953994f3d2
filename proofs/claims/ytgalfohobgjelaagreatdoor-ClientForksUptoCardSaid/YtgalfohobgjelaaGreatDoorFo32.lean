/- What is proved here: several parts. heads and votes put into blocks that a region which draws its order makes anywhere. Conditions: roots have 32 bytes. · the law on two heads of one size that are both certified. Conditions: the world's numbers are bytes; the table of powers of ten lies. -/
import Derived.Test.YtgalfohobgjelaaGreatDoorFo09
import Derived.Test.YtgalfohobgjelaaGreatDoorFo30
import Derived.Test.YtgalfohobgjelaaGreatDoorFo31
import Derived.Deep.DeepCutAuto
namespace Go.Proofs.YtgalfohobgjelaaGreatDoor
open Go.RowKit
/-- A block made for a value of this type, empty so far. -/
def ZBl (t : TypeId) (cs : Array Value) (X W : World) (N : Nat) : Prop := Blk W N t cs ∧ X.heap.size ≤ N
section
variable {t : TypeId} {cs : Array Value} {X W W' : World} {N M : Nat}
theorem ZBl.new (h : Only NoneOf X W) : ZBl t cs X (W.alloc (.cells cs t)) W.heap.size := ⟨Blk.new W t cs, h.size⟩
theorem ZBl.newd (h : Only NoneOf X W) : ZBl t cs X (W.alloc (.cells cs t)).drew W.heap.size := ⟨(Blk.new W t cs).drew, h.size⟩
theorem ZBl.alloc (h : ZBl t cs X W N) (o : Obj) : ZBl t cs X (W.alloc o) N := ⟨h.1.alloc o, h.2⟩
theorem ZBl.allocd (h : ZBl t cs X W N) (o : Obj) : ZBl t cs X (W.alloc o).drew N := ⟨(h.1.alloc o).drew, h.2⟩
theorem ZBl.set (hne : N ≠ M) (h : ZBl t cs X W N) (vs : List Value) : ZBl t cs X (W.setCells M 0 vs) N := ⟨Blk.farCells hne vs 0 h.1, h.2⟩
theorem ZBl.step (h : ZBl t cs X W N) (ho : Only NoneOf W W') : ZBl t cs X W' N := ⟨Blk.only h.1 ho (fun e => e), h.2⟩
theorem ZBl.lt (h : ZBl t cs X W N) : N < W.heap.size := Blk.lt h.1
theorem ZBl.ne1 (h : ZBl t cs X W N) : (N = W.heap.size) = False := eq_false (by have := h.lt; omega)
theorem ZBl.ne2 (h : ZBl t cs X W N) : (W.heap.size = N) = False := eq_false (by have := h.lt; omega)
theorem ZBl.keep (h : ZBl t cs X W N) (ho : Only NoneOf X W) (vs : List Value) : Only NoneOf X (W.setCells N 0 vs) := only_setCells ho N 0 (.inr h.2) vs
end
/-- What must be known of worlds to put two values into two blocks. -/
structure ZLaws (t : TypeId) (cs : Array Value) (X : World) : Prop where
  z1 : ∀ W, Only NoneOf X W → ZBl t cs X (W.alloc (.cells cs t)) W.heap.size
  z11 : ∀ W o, Only NoneOf X W → ZBl t cs X ((W.alloc (.cells cs t)).alloc o) W.heap.size
  z12 : ∀ W o, Only NoneOf X W → ZBl t cs X ((W.alloc o).alloc (.cells cs t)) (W.heap.size + 1)
  z2 : ∀ W o N, ZBl t cs X W N → ZBl t cs X (W.alloc o) N
  n1 : ∀ W N, ZBl t cs X W N → (N = W.heap.size) = False
  n2 : ∀ W N, ZBl t cs X W N → (W.heap.size = N) = False
  k1 : ∀ W N vs, ZBl t cs X W N → Only NoneOf X W → Only NoneOf X (W.setCells N 0 vs)
  k2 : ∀ W N M vs us, ZBl t cs X W N → ZBl t cs X W M → Only NoneOf X W → M ≠ N → Only NoneOf X ((W.setCells N 0 vs).setCells M 0 us)
  a1 : ∀ (W : World) o, Only NoneOf X W → Only NoneOf X (W.alloc o)
  a2 : ∀ (W : World) o o', Only NoneOf X W → Only NoneOf X ((W.alloc o).alloc o')
theorem ZLaws.all (t : TypeId) (cs : Array Value) (X : World) : ZLaws t cs X :=
  ⟨fun _ h => .new h, fun _ o h => (ZBl.new h).alloc o, fun W o h => (by have := ZBl.new (t := t) (cs := cs) (h.alloc o); rwa [World.size_alloc] at this), fun _ o _ h => h.alloc o, fun _ _ h => h.ne1, fun _ _ h => h.ne2, fun _ _ vs h ho => h.keep ho vs, fun _ _ _ vs us h h' ho hne => (h'.set hne vs).keep (h.keep ho vs) us, fun _ o h => h.alloc o, fun _ o o' h => (h.alloc o).alloc o'⟩
theorem zb_head {X : World} {h : Hd} (hl : h.root.length = 32) (W : World) (N : Nat) (hz : ZBl tHd hd0C X W N) : (hdStore (.pointer (some ⟨N, 0, none⟩)) (.agg (hdC h).toArray)).run Tryz.prog W = .ok () (W.setCells N 0 (hdC h)) := hd_store hz.1 rfl hl
theorem zb_head2 {X : World} {h : Hd} (hl : h.root.length = 32) (W : World) (N M : Nat) (vs : List Value) (hne : M ≠ N) (hz : ZBl tHd hd0C X W M) : (hdStore (.pointer (some ⟨M, 0, none⟩)) (.agg (hdC h).toArray)).run Tryz.prog (W.setCells N 0 vs) = .ok () ((W.setCells N 0 vs).setCells M 0 (hdC h)) := hd_store (hz.set hne vs).1 rfl hl
/-- Two heads in two blocks. -/
structure TwoH (X : World) (N M : Nat) (a b : Hd) (W : World) : Prop where
  a : HdAt W N a
  b : HdAt W M b
  only : Only NoneOf X W
theorem TwoH.made {X W : World} {N M : Nat} {a b : Hd} (hN : ZBl tHd hd0C X W N) (hM : ZBl tHd hd0C X W M) (hne : N ≠ M) (ho : Only NoneOf X W) (la : a.root.length = 32) (lb : b.root.length = 32) : TwoH X N M a b ((W.setCells N 0 (hdC a)).setCells M 0 (hdC b)) := by
  have h1 := filled_whole (ds := hdC a) hN.1 (by rw [hdC_len la]; rfl)
  have h2 : ZBl tHd hd0C X (W.setCells N 0 (hdC a)) M := hM.set (Ne.symm hne) _
  exact ⟨Blk.farCells hne _ 0 h1, filled_whole (ds := hdC b) h2.1 (by rw [hdC_len lb]; rfl), h2.keep (hN.keep ho _) _⟩
end Go.Proofs.YtgalfohobgjelaaGreatDoor
namespace Go.Proofs.YtgalfohobgjelaaGreatDoor
open Go.RowKit Go.Shelf
attribute [local go_sem ↓ high] wdLoad_eq hdLoad_eq hdNew_eq hdStore_eq
theorem growL_zero (l : List (List UInt8)) : growL l 0 = [] := by unfold growL; rw [if_pos (.inl rfl)]
theorem fork_first (L : List ByteArray) (hL : L.length ≤ 1000) {n : Nat} (hn : n ≤ L.length) : hdRes (some (hdOf (L.take n))) (knownH hd0) [] = 0 := by
  have h := grow_res L hL hn (Nat.zero_le _) (h := hd0) (known_hd0' L)
  rw [Nat.zero_min, growL_zero, if_neg (Nat.not_lt_zero n)] at h
  exact h
theorem fork_known (L : List ByteArray) (hL : L.length ≤ 1000) {n : Nat} (hn : n ≤ L.length) : knownH (hdNext (some (hdOf (L.take n))) (knownH hd0) [] hd0) = hdOf (L.take n) := by
  have h := grow_known L hL hn (Nat.zero_le _) (h := hd0) (known_hd0' L)
  rw [Nat.zero_min, growL_zero, Nat.zero_max] at h
  exact h
theorem fork_second {a b : Hd} (hs : b.size = a.size) : hdRes (some b) a [] = if b.root = a.root then 0 else 44 := by
  unfold hdRes
  simp only
  rw [if_neg (by omega), if_pos hs]
theorem fork_blame {d : Wd} {a b : Hd} {x y : Nat} {M : List Vt} (hM : ∀ v ∈ M, v ∈ votesW d a x 0 ∨ v ∈ votesW d b y 0) {z : Blm} (hz : z ∈ blL (setW d) M) : ∃ k : Nat, 1 ≤ k ∧ k ≤ 7 ∧ z.who = (k : Int) ∧ bitW x k = true ∧ bitW y k = true := by
  unfold blL clashL clashO at hz
  obtain ⟨p, hp, hb⟩ := List.mem_filterMap.1 hz
  obtain ⟨k, k1, k2, rfl⟩ := offsW_at hp
  obtain ⟨h1, h2, h3, h4, h5, h6⟩ := blmOf_who hb
  have h7 := wdn_le d
  obtain ⟨_, hne⟩ := agT_false h6
  have one : ∀ {h : Hd} {m : Nat} {v : Vt}, v ∈ votesW d h m 0 → cnts (offAt k) v = true → bitW m k = true ∧ v.head = h := fun {h m v} hv hc => by
    obtain ⟨i, i1, i2, i3, rfl⟩ := votesW_mem.1 hv
    rw [cnts_at] at hc
    have := of_decide_eq_true hc
    subst this
    exact ⟨i3, rfl⟩
  refine ⟨k, k1, by omega, h1, ?_⟩
  rcases hM _ h2 with u | u <;> rcases hM _ h3 with v | v
  · exact absurd ((one u h4).2.trans (one v h5).2.symm) hne
  · exact ⟨(one u h4).1, (one v h5).1⟩
  · exact ⟨(one v h5).1, (one u h4).1⟩
  · exact absurd ((one u h4).2.trans (one v h5).2.symm) hne
theorem blL_len (d : Wd) (M : List Vt) : (blL (setW d) M).length ≤ 7 := by
  have h1 := clashO_len agT M (offs (setW d))
  rw [offs_setW_len] at h1
  have h2 := wdn_le d
  unfold blL clashL
  omega
theorem bit16z (y id : Nat) : (bits .and .u16 ((y : Int) / 2 ^ id) 1 == 0) = !bitW y id := by
  have e : (y : Int) / 2 ^ id = ((y / 2 ^ id : Nat) : Int) := by
    rw [Int.natCast_ediv]; congr 1
  have h1 : ∀ z : Nat, bits .and .u16 (z : Int) 1 = ((z % 2 : Nat) : Int) := fun z => by
    show IntKind.u16.wrap ((BitVec.ofInt 16 (z : Int) &&& BitVec.ofInt 16 1).toNat : Int) = _
    have e : (BitVec.ofInt 16 (z : Int) &&& BitVec.ofInt 16 1).toNat = z % 2 := by
      rw [BitVec.toNat_and, show (BitVec.ofInt 16 1).toNat = 1 from by decide, Nat.and_one_is_mod, show BitVec.ofInt 16 (z : Int) = BitVec.ofNat 16 z by simp, BitVec.toNat_ofNat]
      omega
    rw [e]
    simp [IntKind.wrap, IntKind.bits, IntKind.signed]
    omega
  rw [e, h1, bitW, Bool.eq_iff_iff]
  simp
  omega
/-- The client behind the first votes. -/
noncomputable def fkV1 (d : Wd) (a : Hd) (x : Nat) (o : Option Hd) : Vw := ⟨60, setW d, false, ⟨#[]⟩, hdNext o (knownH hd0) [] hd0, takeV [] (votesW d a x 0), false⟩
/-- What both calls answer. -/
theorem fk_res {d : Wd} {L L' : List ByteArray} (hL : L.length ≤ 1000) {n x y : Nat} (hn : n ≤ L.length) (hn' : n ≤ L'.length) {a b : Hd} (ea : a = hdOf (L.take n)) (eb : b = hdOf (L'.take n)) {o1 o2 : Option Hd} (ho1 : BestL (setW d) (votesW d a x 0) o1) (ho2 : BestL (setW d) (votesW d b y 0) o2) {r1 r2 : Int} (er1 : r1 = hdRes o1 (knownH hd0) []) (er2 : r2 = hdRes o2 (knownH (fkV1 d a x o1).head) []) :
    (r1 = 24) ∨ (r1 = 0 ∧ r2 ≠ 44) ∨ (r1 = 0 ∧ r2 = 44 ∧ a.size = b.size ∧ a ≠ b ∧ certB (setW d) a (votesW d a x 0) = true ∧ certB (setW d) b (votesW d b y 0) = true) := by
  rcases best_same (fun v hv => votesW_head hv) ho1 with ⟨rfl, _⟩ | ⟨rfl, h1⟩
  · exact .inl er1
  · have e1 : r1 = 0 := by rw [er1, ea]; exact fork_first L hL hn
    have ek : knownH (fkV1 d a x (some a)).head = a := by
      have := fork_known L hL hn
      rw [← ea] at this
      exact this
    rw [ek] at er2
    have hs : b.size = a.size := by
      rw [ea, eb]
      show ((L'.take n).length : Int) = ((L.take n).length : Int)
      rw [List.length_take, List.length_take, Nat.min_eq_left hn, Nat.min_eq_left hn']
    rcases best_same (fun v hv => votesW_head hv) ho2 with ⟨rfl, _⟩ | ⟨rfl, h2⟩
    · refine .inr (.inl ⟨e1, ?_⟩)
      rw [er2]
      show (24 : Int) ≠ 44
      decide
    · rw [fork_second hs] at er2
      by_cases hr : b.root = a.root
      · rw [if_pos hr] at er2
        exact .inr (.inl ⟨e1, by rw [er2]; decide⟩)
      · rw [if_neg hr] at er2
        exact .inr (.inr ⟨e1, er2, hs.symm, fun e => hr (by rw [e]), h1, h2⟩)
/-- The arguments. -/
structure FkA (w : World) (B F : Nat) (d : Wd) (kA : Option Addr) (kc x y : Nat) (W : World) : Prop where
  wd : Blk W B tWd (wdC d kA kc)
  bits : Blk W F 63 #[.int .u16 (x : Int), .int .u16 (y : Int)]
  only : Only NoneOf w W
theorem FkA.keep {w : World} {B F : Nat} {d : Wd} {kA : Option Addr} {kc x y : Nat} {W W' : World} (h : FkA w B F d kA kc x y W) (ho : Only NoneOf W W') : FkA w B F d kA kc x y W' := ⟨h.wd.only ho (fun e => e), h.bits.only ho (fun e => e), h.only.trans ho⟩
/-- .. with the heads and the client. -/
structure FkS (w : World) (B F : Nat) (d : Wd) (kA : Option Addr) (kc x y : Nat) (N M : Nat) (a b : Hd) (base C top : Nat) (s : Vw) (W : World) : Prop where
  arg : FkA w B F d kA kc x y W
  a : HdAt W N a
  b : HdAt W M b
  has : Has w base C top s W
section
variable {w : World} {B F : Nat} {d : Wd} {kA : Option Addr} {kc x y : Nat} {N M : Nat} {a b : Hd} {base C top top' : Nat} {s s' : Vw} {W W' : World}
theorem FkS.keep (h : FkS w B F d kA kc x y N M a b base C top s W) (ho : Only NoneOf W W') : FkS w B F d kA kc x y N M a b base C top s W' :=
  ⟨h.arg.keep ho, Blk.only h.a ho (fun e => e), Blk.only h.b ho (fun e => e), h.has.keep ho⟩
theorem FkS.near (h : FkS w B F d kA kc x y N M a b base C top s W) (hn : Near base W W') (hh : Has w base C top' s' W') : FkS w B F d kA kc x y N M a b base C top' s' W' :=
  ⟨⟨hn.blk h.arg.wd (by decide) (by decide) (by decide), hn.blk h.arg.bits (by decide) (by decide) (by decide), hh.only⟩, hn.blk h.a (by decide) (by decide) (by decide), hn.blk h.b (by decide) (by decide) (by decide), hh⟩
end
set_option maxRecDepth 100000 in
set_option maxHeartbeats 4000000 in
theorem forks_law (d : Wd) (hd : d.Ok) (kA : Option Addr) (kc : Nat) (sz : Nat) (hsz : sz < 256) (x y : Nat) (hx : x < 65536) (hy : y < 65536) (w : World) (hkd : KdAt w kA d.kinds) (hkl : d.kinds.length ≤ 1000000000) (ht : Tab w) :
    Calls Tryz.prog 5 #[.agg (wdC d kA kc), .int .u8 (sz : Int), .agg #[.int .u16 (x : Int), .int .u16 (y : Int)]] w fun e w' => e = .returned (.bool true) ∧ Only NoneOf w w' := by
  obtain ⟨B, eB⟩ : ∃ B, B = w.heap.size := ⟨_, rfl⟩
  obtain ⟨F, eF⟩ : ∃ F, F = B + 1 := ⟨_, rfl⟩
  have hA0 : FkA w B F d kA kc x y ((w.alloc (.cells (wdC d kA kc) tWd)).alloc (.cells #[.int .u16 (x : Int), .int .u16 (y : Int)] 63)) := by
    have h1 := Blk.new (w.alloc (.cells (wdC d kA kc) tWd)) 63 #[.int .u16 (x : Int), .int .u16 (y : Int)]
    rw [World.size_alloc, ← eB, ← eF] at h1
    exact ⟨by rw [eB]; exact (Blk.new w _ _).alloc _, h1, ((Only.refl _ _).alloc _).alloc _⟩
  obtain ⟨WV, eWV⟩ : ∃ v : Array Value, v = wdC d kA kc := ⟨_, rfl⟩
  obtain ⟨ln, eln⟩ : ∃ n, n = (lvW d false).length := ⟨_, rfl⟩
  have hln : ln ≤ 12 := by rw [eln]; exact lvW_le d false
  have hsan : ∀ W, Only NoneOf w W → Calls Tryz.prog 11 #[] W fun e w' => e = .returned (.bool true) ∧ Only NoneOf W w' := fun W ho => sanity31 W (ht.none ho)
  have hevs : ∀ W (sec : Bool), FkA w B F d kA kc x y W → Calls Tryz.prog 13 #[.agg WV, .bool sec] W fun e' w' => ∃ rv, e' = .returned rv ∧ EvSl w' rv (evsW d sec) ∧ FkA w B F d kA kc x y w' ∧ Only NoneOf W w' := fun W sec h => by
    rw [eWV]
    exact (wevents_any d hd sec kA kc W (hkd.none_ h.only) hkl (ht.none h.only)).mono (fun e' w' ⟨rv, h1, h2, h3⟩ => ⟨rv, h1, h2.sl (fun e he => (evsW_ok he).1.prev), h.keep h3, h3⟩)
  have hlvs : ∀ W (sec : Bool) rv, FkA w B F d kA kc x y W → EvSl W rv (evsW d sec) → Calls Tryz.prog 12 #[rv] W fun e' w' => ∃ A cap, e' = .returned (.slice A ln cap) ∧ StSl w' (.slice A ln cap) (lvW d sec) ∧ FkA w B F d kA kc x y w' ∧ Only NoneOf W w' := fun W sec rv hA h =>
    (rleaves_any (evsW d sec) (fun e he => evsW_ok he) (by have := evsW_le d sec; omega) rv W h).mono (fun e' w' ⟨lv, h1, h2, h3⟩ => by
      have e9 : (evsW d sec).length = ln := by rw [eln, lvW_len, evsW_len, evsW_len]
      have e8 : (lvW d sec).length = ln := by rw [lvW_len, e9]
      rw [e9] at h2
      obtain ⟨A, cap, rfl, h4, h5⟩ := own_form' h2
      refine ⟨A, cap, h1, ?_, hA.keep h3, h3⟩
      have h6 : TxOwn w' W.heap.size (.slice A ln cap) (lvW d sec).length (lvW d sec) := by rw [e8]; exact h2
      exact h6.sl)
  have hset : ∀ W, Calls Tryz.prog 18 #[.agg WV] W fun e' w' => ∃ pv, e' = .returned (setV pv) ∧ PerSl w' pv (setW d) ∧ Only NoneOf W w' := fun W => by rw [eWV]; exact wsetup_any d hd kA kc W
  have hnew : ∀ W pv, Only NoneOf w W → PerSl W pv (setW d) → Calls Tryz.prog 17 #[.int .i64 60, setV pv] W fun e w' => ∃ C, e = .returned (.pointer (some ⟨C, 0, none⟩)) ∧ Has w W.heap.size C w'.heap.size ⟨60, setW d, false, ⟨#[]⟩, hd0, [], false⟩ w' ∧ Only NoneOf W w' := fun W pv ho hp => has_new w 60 (setW d) (setW_len _) pv W ho hp
  have hvts : ∀ (h : Hd) (m : Nat) W, h.Ok → m < 65536 → Calls Tryz.prog 14 #[.agg WV, .agg (hdC h).toArray, .int .u16 (m : Int), .int .u16 0] W fun e' w' => ∃ rv, e' = .returned rv ∧ VtOwn w' W.heap.size rv (votesW d h m 0).length (votesW d h m 0) ∧ Only NoneOf W w' := fun h m W ok hm => by rw [eWV]; exact wvotes_any d hd h ok m 0 hm (by omega) kA kc W
  obtain ⟨n, en⟩ : ∃ n : Nat, n = sz % (ln + 1) := ⟨_, rfl⟩
  have hn : n ≤ ln := by rw [en]; exact Nat.le_of_lt_succ (Nat.mod_lt _ (by omega))
  have kt : (sz : Int).tmod ((ln : Int) + 1) = (n : Int) := by
    rw [Int.tmod_eq_emod_of_nonneg (by omega), en]; rfl
  have kx : IntKind.i64.wrap (sz : Int) = (sz : Int) := IntWalk.i64_in _ (by omega)
  have kl : IntKind.i64.wrap ((ln : Int) + 1) = (ln : Int) + 1 := IntWalk.i64_in _ (by omega)
  have kn : IntKind.i64.wrap (n : Int) = (n : Int) := IntWalk.i64_in _ (by omega)
  have e0 : ¬ (ln : Int) + 1 = 0 := by omega
  have HA0 := Lib.hid hA0
  have EB := Lib.hid eB
  have EF := Lib.hid eF
  have EWV := Lib.hid eWV
  have ELN := Lib.hid eln
  have EN := Lib.hid en
  have HSAN := Lib.hid hsan
  have HEVS := Lib.hid hevs
  have HLVS := Lib.hid hlvs
  have HSET := Lib.hid hset
  have HNEW := Lib.hid hnew
  have HVTS := Lib.hid hvts
  have HT := Lib.hid ht
  clear hA0 eB eF eWV eln en hsan hevs hlvs hset hnew hvts hkd ht
  go_enter Tryz.func5, Tryz.ntmps5
  go_upto_region 1 with (fail)
  rw [← EB.out, ← EF.out]
  refine wp_gen (FkA w B F d kA kc x y) HA0.out ?_
  clear HA0
  intro Z hZ
  have HZ := Lib.hid hZ
  clear hZ
  go_wp2_with fail
  refine (HSAN.out _ HZ.out.only).mono ?_
  rintro e1 w1 ⟨rfl, ho1⟩
  have hS0 : FkA w B F d kA kc x y w1.drew := HZ.out.keep (ho1.trans (Only.refl _ _).drew)
  have hld : ∀ W, FkA w B F d kA kc x y W → (wdLoad (.pointer (some ⟨B, 0, none⟩))).run Tryz.prog W = .ok (.agg WV) W := fun W h => by rw [EWV.out]; exact wd_load h.wd
  clear ho1 HZ
  go_upto_region 2 with (fail)
  go_cut [8, 9] (fun p q wx => ∃ lA lc mA mc, p = .slice lA ln lc ∧ q = .slice mA ln mc ∧ StSl wx (.slice lA ln lc) (lvW d false) ∧ StSl wx (.slice mA ln mc) (lvW d true) ∧ FkA w B F d kA kc x y wx)
  case first =>
   as_aux_lemma =>
    go_region_held3 (fun W => FkA w B F d kA kc x y W) (first | (with_reducible assumption))
      (first
        | (go_at_call 13; (with_reducible refine (HEVS.out _ false (by assumption)).mono ?_); rintro e2 w2 ⟨rv2, rfl, hr2, hS2, ho2⟩; (try have hr3 := EvSl.only hr3 ho2); (try have hl5 := StSl.only hl5 ho2); clear ho2)
        | (go_at_call 13; (with_reducible refine (HEVS.out _ true (by assumption)).mono ?_); rintro e3 w3 ⟨rv3, rfl, hr3, hS3, ho3⟩; (try have hr2 := EvSl.only hr2 ho3); (try have hl4 := StSl.only hl4 ho3); clear ho3)
        | (go_at_call 12; (with_reducible refine (HLVS.out _ false _ (by assumption) (by assumption)).mono ?_); rintro e4 w4 ⟨lA, lc, rfl, hl4, hS4, ho4⟩; (try have hr3 := EvSl.only hr3 ho4); (try have hl5 := StSl.only hl5 ho4); clear ho4)
        | (go_at_call 12; (with_reducible refine (HLVS.out _ true _ (by assumption) (by assumption)).mono ?_); rintro e5 w5 ⟨mA, mc, rfl, hl5, hS5, ho5⟩; (try have hr2 := EvSl.only hr2 ho5); (try have hl4 := StSl.only hl4 ho5); clear ho5))
    all_goals
      go_wp2_with fail
      go_meet
      case rel => exact ⟨_, _, _, _, rfl, rfl, by with_reducible assumption, by with_reducible assumption, by with_reducible assumption⟩
  case rest =>
  obtain ⟨lA, lc, mA, mc, rfl, rfl, hl, hm, hA⟩ := hcut
  have hlc : ln ≤ lc := by
    obtain ⟨A, cap, e, h1, _⟩ := id hl
    cases e
    rw [← ELN.out] at h1; exact h1
  have hmc : ln ≤ mc := by
    obtain ⟨A, cap, e, h1, _⟩ := id hm
    cases e
    rw [lvW_same, ← ELN.out] at h1; exact h1
  have hnl : (n : Int) ≤ (lc : Int) := by omega
  have hnm : (n : Int) ≤ (mc : Int) := by omega
  have HL := Lib.hid (And.intro hl (And.intro hm hA))
  clear hl hm hA hS0
  go_upto_region 4 with (fail)
  refine wp_gen (fun Z => StSl Z (.slice lA ln lc) (lvW d false) ∧ StSl Z (.slice mA ln mc) (lvW d true) ∧ FkA w B F d kA kc x y Z) HL.out ?_
  clear HL
  rintro X ⟨hl, hm, hA⟩
  have HX := Lib.hid (And.intro hl (And.intro hm hA))
  clear hl hm hA
  obtain ⟨a, ea⟩ : ∃ a, a = hdOf ((lvW d false).take n) := ⟨_, rfl⟩
  obtain ⟨b, eb⟩ : ∃ b, b = hdOf ((lvW d true).take n) := ⟨_, rfl⟩
  have oa : a.Ok := by rw [ea]; exact hdOf_ok (by rw [List.length_take]; omega)
  have ob : b.Ok := by rw [eb]; exact hdOf_ok (by rw [List.length_take]; omega)
  have la := oa.root
  have lb := ob.root
  have HAO := Lib.hid oa
  have HBO := Lib.hid ob
  have HLA := Lib.hid la
  have HLB := Lib.hid lb
  have C1 : Hid (∀ W, Only NoneOf X W → Calls Tryz.prog 15 #[.slice lA n lc] W fun e w' => e = .returned (.agg (hdC a).toArray) ∧ Only NoneOf W w') := Lib.hid (fun W ho => by
    rw [ea]
    exact rheadof_any _ (by rw [List.length_take]; omega) (short_take (lvW_short d false) n) _ W ((HX.out.1.only ho).first (k := n) (by rw [← ELN.out]; exact hn)))
  have C2 : Hid (∀ W, Only NoneOf X W → Calls Tryz.prog 15 #[.slice mA n mc] W fun e w' => e = .returned (.agg (hdC b).toArray) ∧ Only NoneOf W w') := Lib.hid (fun W ho => by
    rw [eb]
    exact rheadof_any _ (by rw [List.length_take]; omega) (short_take (lvW_short d true) n) _ W ((HX.out.2.1.only ho).first (k := n) (by rw [lvW_same, ← ELN.out]; exact hn)))
  obtain ⟨z1, z11, z12, z2, n1, n2, k1, k2, a1, a2⟩ := ZLaws.all tHd hd0C X
  have zs1 := fun W N => zb_head (X := X) la W N
  have zs2 := fun W N M vs => zb_head2 (X := X) lb W N M vs
  have hnw := hdNew_run
  have hX0 : Only NoneOf X X := Only.refl _ _
  have hX1 : Only NoneOf X X.drew := (Only.refl _ _).drew
  have HALD : Hid (∀ (W : World) o, Only NoneOf X W.drew → Only NoneOf X (W.alloc o).drew) := Lib.hid (fun W o h => (Only.alloc h o))
  have EA := Lib.hid ea
  have EBB := Lib.hid eb
  clear la lb oa ob ea eb hld
  go_cut [11, 12] (fun p q wx => ∃ N M, p = .pointer (some ⟨N, 0, none⟩) ∧ q = .pointer (some ⟨M, 0, none⟩) ∧ TwoH X N M a b wx)
  case first =>
   as_aux_lemma =>
    go_region_held3 (fun W => Only NoneOf X W) (first | (with_reducible assumption) | (with_reducible exact a1 _ _ (by with_reducible assumption)) | (with_reducible exact HALD.out _ _ (by with_reducible assumption)) | (simp [*]))
      (first
        | (go_at_call 15; (with_reducible refine (C1.out _ (by first | with_reducible assumption | exact Only.alloc (by with_reducible assumption) _ | exact Only.alloc (Only.alloc (by with_reducible assumption) _) _)).mono ?_); rintro e3 w3 ⟨rfl, ho3⟩; have hS3 := Only.trans (by with_reducible assumption) ho3; (try (have y1 : ZBl tHd hd0C X w3 X.heap.size := ZBl.step (by first | exact ZBl.newd hX0 | exact (ZBl.new hX0).allocd _) ho3)); (try (have y2 : ZBl tHd hd0C X w3 (X.heap.size + 1) := ZBl.step (W := ((X.alloc _).alloc _).drew) (z12 X _ hX0) ho3)); clear ho3)
        | (go_at_call 15; (with_reducible refine (C2.out _ (by first | with_reducible assumption | exact Only.alloc (by with_reducible assumption) _ | exact Only.alloc (Only.alloc (by with_reducible assumption) _) _)).mono ?_); rintro e4 w4 ⟨rfl, ho4⟩; have hS4 := Only.trans (by with_reducible assumption) ho4; (try (have y3 : ZBl tHd hd0C X w4 X.heap.size := ZBl.step (by first | exact y1 | exact y1.alloc _ | exact (y1.alloc _).alloc _) ho4)); (try (have y4 : ZBl tHd hd0C X w4 (X.heap.size + 1) := ZBl.step (by first | exact y2 | exact y2.alloc _ | exact (y2.alloc _).alloc _) ho4)); (try (have y5 : ZBl tHd hd0C X w4 w3.heap.size := ZBl.step (by first | exact ZBl.new hS3 | exact (ZBl.new hS3).alloc _) ho4)); (try (have y6 : ZBl tHd hd0C X w4 (w3.heap.size + 1) := ZBl.step (z12 w3 _ hS3) ho4)); clear ho4))
    all_goals
      clear hnw zs1 zs2
      go_wp2_with fail
      go_meet
      case rel => exact ⟨_, _, rfl, rfl, TwoH.made (by simp [*]) (by simp [*]) (by simp [*]) (by simp [*]) HLA.out HLB.out⟩
  case rest =>
  obtain ⟨N, M, rfl, rfl, hTW⟩ := hcut
  have HTW := Lib.hid hTW
  clear hTW z1 z11 z12 z2 n1 n2 k1 k2 a1 a2 zs1 zs2 hnw hX0 hX1 HALD
  go_upto_region 5 with (fail)
  refine wp_gen (fun Z => FkA w B F d kA kc x y Z ∧ HdAt Z N a ∧ HdAt Z M b) ⟨HX.out.2.2.keep HTW.out.only, HTW.out.a, HTW.out.b⟩ ?_
  clear HTW
  rintro V ⟨hV, hVa, hVb⟩
  have l1 := wd_load hV.wd
  rw [← EWV.out] at l1
  have HV := Lib.hid (And.intro hV (And.intro hVa hVb))
  clear hV hVa hVb HX C1 C2
  go_wp2_with fail
  refine (HSET.out _).mono ?_
  rintro e4 w4 ⟨pv, rfl, hpv, ho4⟩
  have H4 := Lib.hid (And.intro hpv ho4)
  clear hpv ho4 l1
  go_wp2_with fail
  refine (HNEW.out _ _ (HV.out.1.only.trans H4.out.2) H4.out.1).mono ?_
  rintro e5 w5 ⟨C, rfl, hh5, ho5⟩
  obtain ⟨base, ebase⟩ : ∃ n, n = w4.heap.size := ⟨_, rfl⟩
  obtain ⟨t5, et5⟩ : ∃ n, n = w5.heap.size := ⟨_, rfl⟩
  rw [← ebase, ← et5] at hh5
  have ho45 := H4.out.2.trans ho5
  have hS5 : FkS w B F d kA kc x y N M a b base C t5 ⟨60, setW d, false, ⟨#[]⟩, hd0, [], false⟩ w5 :=
    ⟨HV.out.1.keep ho45, Blk.only HV.out.2.1 ho45 (fun e => e), Blk.only HV.out.2.2 ho45 (fun e => e), hh5⟩
  have k1 : ∀ W top sv, FkS w B F d kA kc x y N M a b base C top ⟨60, setW d, false, ⟨#[]⟩, hd0, [], false⟩ W → VtOwn W top sv (votesW d a x 0).length (votesW d a x 0) → Calls Tryz.prog 19 #[.pointer (some ⟨C, 0, none⟩), sv, .slice none 0 0] W fun e w' => ∃ o, BestL (setW d) (votesW d a x 0) o ∧ e = .returned (.int .i64 (hdRes o (knownH hd0) [])) ∧ ∃ top', FkS w B F d kA kc x y N M a b base C top' (fkV1 d a x o) w' := fun W top sv hS hv => by
    have hsm : SmallH a := by rw [EA.out]; exact hdOf_small (by rw [List.length_take]; omega)
    refine (has_head w HT.out (setW_ok d) (setW_len d) hd0_small _ (votesW_ok d HAO.out _ _) (votesW_small d hsm _ _) (Nat.le_trans (votesW_len _ _ _ _) (by omega)) (Nat.zero_le _) sv [] (fun _ h => by cases h) (Nat.zero_le _) _ W hS.has (hv.sl (votesW_ok d HAO.out _ _)) (offV_top hv (Nat.le_refl _)) (haSl_nil _) (off_nil _ _)).mono ?_
    rintro e w' ⟨o, ho, he, hh, hnr⟩
    exact ⟨o, ho, he, _, hS.near hnr hh⟩
  have k2 : ∀ W top sv o, (∀ u ∈ (fkV1 d a x o).votes, u ∈ votesW d a x 0) → SmallH (fkV1 d a x o).head → FkS w B F d kA kc x y N M a b base C top (fkV1 d a x o) W → VtOwn W top sv (votesW d b y 0).length (votesW d b y 0) → Calls Tryz.prog 19 #[.pointer (some ⟨C, 0, none⟩), sv, .slice none 0 0] W fun e w' => ∃ o2, BestL (setW d) (votesW d b y 0) o2 ∧ e = .returned (.int .i64 (hdRes o2 (knownH (fkV1 d a x o).head) [])) ∧ ∃ top', FkS w B F d kA kc x y N M a b base C top' { fkV1 d a x o with votes := takeV (fkV1 d a x o).votes (votesW d b y 0), head := hdNext o2 (knownH (fkV1 d a x o).head) [] (fkV1 d a x o).head } w' := fun W top sv o hvo hsh hS hv => by
    have hsm : SmallH b := by rw [EBB.out]; exact hdOf_small (by rw [List.length_take]; omega)
    have hlen : (fkV1 d a x o).votes.length ≤ 50000 := by
      have h1 := takeV_len [] (votesW d a x 0)
      have h2 := votesW_len d a x 0
      show (takeV [] (votesW d a x 0)).length ≤ _
      simp only [List.length_nil] at h1
      omega
    refine (has_head w HT.out (setW_ok d) (setW_len d) hsh _ (votesW_ok d HBO.out _ _) (votesW_small d hsm _ _) (Nat.le_trans (votesW_len _ _ _ _) (by omega)) hlen sv [] (fun _ h => by cases h) (Nat.zero_le _) _ W hS.has (hv.sl (votesW_ok d HBO.out _ _)) (offV_top hv (Nat.le_refl _)) (haSl_nil _) (off_nil _ _)).mono ?_
    rintro e w' ⟨o2, ho, he, hh, hnr⟩
    exact ⟨o2, ho, he, _, hS.near hnr hh⟩
  have c0 : w5.cell? ⟨F, 0, none⟩ = some (.int .u16 (x : Int)) := hS5.arg.bits.cell 0
  have l1 := wd_load hS5.arg.wd
  rw [← EWV.out] at l1
  have l2 := hd_load (blk_range hS5.a) HLA.out
  have K1 := Lib.hid k1
  have K2 := Lib.hid k2
  have H5 := Lib.hid hS5
  clear k1 k2 hS5 hh5 ho5 ho45 H4 HV ebase et5 HSET HNEW HEVS HLVS HSAN
  go_wp2_with fail
  refine (HVTS.out _ _ _ HAO.out hx).mono ?_
  rintro e6 w6 ⟨v6, rfl, hv6, ho6⟩
  have H6 := Lib.hid (And.intro (H5.out.keep ho6) (own_lower hv6 H5.out.has.size))
  clear hv6 ho6 c0 l1 l2 H5
  go_wp2_with fail
  refine (K1.out _ _ _ H6.out.1 H6.out.2).mono ?_
  rintro e7 w7 ⟨o1, ho1, rfl, t7, hS7⟩
  obtain ⟨r1, er1⟩ : ∃ r, r = hdRes o1 (knownH hd0) [] := ⟨_, rfl⟩
  rw [← er1]
  have c1 : w7.cell? ⟨F, 1, none⟩ = some (.int .u16 (y : Int)) := hS7.arg.bits.cell 1
  have l1 := wd_load hS7.arg.wd
  rw [← EWV.out] at l1
  have l2 := hd_load (blk_range hS7.b) HLB.out
  have hsh7 : SmallH (fkV1 d a x o1).head := hdNext_small (votesW_small d (by rw [EA.out]; exact hdOf_small (by rw [List.length_take]; omega)) _ _) hd0_small ho1
  have H7 := Lib.hid (And.intro hS7 (And.intro ho1 (And.intro hsh7 er1)))
  clear hS7 ho1 hsh7 er1 H6 K1
  go_wp2_with fail
  refine (HVTS.out _ _ _ HBO.out hy).mono ?_
  rintro e8 w8 ⟨v8, rfl, hv8, ho8⟩
  have H8 := Lib.hid (And.intro (H7.out.1.keep ho8) (own_lower hv8 H7.out.1.has.size))
  clear hv8 ho8 c1 l1 l2
  go_wp2_with fail
  refine (K2.out _ _ _ _ (fun u hu => by rcases (takeV_mem [] _ u).1 hu with h | h; cases h; exact h) H7.out.2.2.1 H8.out.1 H8.out.2).mono ?_
  rintro e9 w9 ⟨o2, ho2, rfl, t9, hS9⟩
  obtain ⟨r2, er2⟩ : ∃ r, r = hdRes o2 (knownH (fkV1 d a x o1).head) [] := ⟨_, rfl⟩
  rw [← er2]
  have HF := Lib.hid hS9.has.only
  have hres := fk_res (L := lvW d false) (L' := lvW d true) (by have := lvW_le d false; omega) (by rw [← ELN.out]; exact hn) (by rw [lvW_same, ← ELN.out]; exact hn) EA.out EBB.out H7.out.2.1 ho2 H7.out.2.2.2 er2
  have hM9 : ∀ v ∈ takeV (fkV1 d a x o1).votes (votesW d b y 0), v ∈ votesW d a x 0 ∨ v ∈ votesW d b y 0 := fun v hv => by
    rcases (takeV_mem _ _ v).1 hv with h | h
    · rcases (takeV_mem [] _ v).1 h with h | h
      · cases h
      · exact .inl h
    · exact .inr h
  have hC9 : (certB (setW d) a (votesW d a x 0) = true → certB (setW d) a (takeV (fkV1 d a x o1).votes (votesW d b y 0)) = true) ∧ (certB (setW d) b (votesW d b y 0) = true → certB (setW d) b (takeV (fkV1 d a x o1).votes (votesW d b y 0)) = true) :=
    ⟨certB_mono (fun v hv => (takeV_mem _ _ v).2 (.inl ((takeV_mem [] _ v).2 (.inr hv)))), certB_mono (fun v hv => (takeV_mem _ _ v).2 (.inr hv))⟩
  have hlen9 : (takeV (fkV1 d a x o1).votes (votesW d b y 0)).length ≤ 100000 := by
    have h1 := takeV_len [] (votesW d a x 0)
    have h2 := votesW_len d a x 0
    have h3 := takeV_len (takeV [] (votesW d a x 0)) (votesW d b y 0)
    have h4 := votesW_len d b y 0
    show (takeV (takeV [] (votesW d a x 0)) (votesW d b y 0)).length ≤ _
    simp only [List.length_nil] at h1
    omega
  obtain ⟨M9, eM9⟩ : ∃ l, l = takeV (fkV1 d a x o1).votes (votesW d b y 0) := ⟨_, rfl⟩
  obtain ⟨s9, es9⟩ : ∃ s : Vw, s = { fkV1 d a x o1 with votes := takeV (fkV1 d a x o1).votes (votesW d b y 0), head := hdNext o2 (knownH (fkV1 d a x o1).head) [] (fkV1 d a x o1).head } := ⟨_, rfl⟩
  have hsP : s9.P = setW d := by rw [es9]; rfl
  have hsM : s9.votes = M9 := by rw [es9, eM9]
  have hsr : s9.rc = false := by rw [es9]; rfl
  rw [← es9] at hS9
  rw [← eM9] at hM9 hC9 hlen9
  have kbl : ∀ W, FkS w B F d kA kc x y N M a b base C t9 s9 W → Calls Tryz.prog 20 #[.pointer (some ⟨C, 0, none⟩)] W fun e w' => ∃ ov, e = .returned ov ∧ BlSl w' ov (blL (setW d) M9) ∧ Only NoneOf W w' := fun W h => by
    have hb := has_blames w HT.out (s := s9) (by rw [hsP]; exact setW_ok d) (by rw [hsP]; exact setW_len d) (by rw [hsM]; exact hlen9) W h.has
    rw [hsP, hsM] at hb
    exact hb
  have ksf : ∀ W, FkS w B F d kA kc x y N M a b base C t9 s9 W → Calls Tryz.prog 22 #[.pointer (some ⟨C, 0, none⟩)] W fun e w' => e = .returned (.bool false) ∧ Only NoneOf W w' := fun W h => by
    have hb := has_safe w HT.out (s := s9) (by rw [hsP]; exact setW_ok d) (by rw [hsP]; exact setW_len d) (by rw [hsM]; exact hlen9) W h.has
    rw [hsr] at hb
    exact hb
  have H9 := Lib.hid hS9
  have KBL := Lib.hid kbl
  have KSF := Lib.hid ksf
  have HM9 := Lib.hid hM9
  have HC9 := Lib.hid hC9
  clear hS9 ho2 er2 kbl ksf hM9 hC9 eM9 es9 hsP hsM hsr H8 H7 K2
  rcases hres with rfl | ⟨rfl, h44⟩ | ⟨rfl, rfl, hsz, hne, hca, hcb⟩
  · go_wp2_with fail
    go_ret
    exact ⟨rfl, HF.out⟩
  · have b1 : (r2 != 44) = true := by simpa using h44
    have b2 : (r2 == 44) = false := by simpa using h44
    clear h44
    go_wp2_with fail
    go_ret
    exact ⟨rfl, HF.out⟩
  · have q1 := fun W => eql_hd a b HLA.out HLB.out W
    rw [show eqHd a b = false from eqHd_false.2 hne] at q1
    have l1 := hd_load (blk_range H9.out.a) HLA.out
    have l2 := hd_load (blk_range H9.out.b) HLB.out
    have h3 := blL_two (agT_roots hsz hne) (HC9.out.1 hca) (HC9.out.2 hcb)
    have h7 := blL_len d M9
    have HFB := Lib.hid (fun z (hz : z ∈ blL (setW d) M9) => fork_blame HM9.out hz)
    clear hsz hne hca hcb
    obtain ⟨BL, eBL⟩ : ∃ l, l = blL (setW d) M9 := ⟨_, rfl⟩
    rw [← eBL] at h3 h7 KBL HFB
    clear eBL
    go_wp2_with fail
    refine (KBL.out _ H9.out).mono ?_
    rintro e10 w10 ⟨ov, rfl, ⟨A, cap, rfl, hcl, hcm, hA⟩, ho10⟩
    have H10 := Lib.hid (H9.out.keep ho10)
    have HA := Lib.hid hA
    clear hA ho10 l1 l2 q1 KBL H9
    go_wp2_with fail
    go_loopw [86] (fun i wr => ∃ k : Nat, i = .int .i64 (k : Int) ∧ k ≤ BL.length ∧ FkS w B F d kA kc x y N M a b base C t9 s9 wr ∧ Only NoneOf w10 wr) (fun i _ => BL.length - (intOf i).toNat)
    case atStart => exact ⟨0, rfl, Nat.zero_le _, H10.out, Only.refl _ _⟩
    case round =>
      obtain ⟨k, rfl, hk, hS, ho⟩ := hrel
      by_cases hlt : k < BL.length
      · obtain ⟨z, hz⟩ : ∃ z, BL[k]? = some z := ⟨_, List.getElem?_eq_getElem hlt⟩
        obtain ⟨g, o, rfl, _, hr⟩ := HA.out k z hz
        obtain ⟨j, j1, j7, hw, hb1, hb2⟩ := HFB.out z (List.mem_of_getElem? hz)
        have ik : (k : Int) < (BL.length : Int) := by omega
        have ik0 : (0 : Int) ≤ (k : Int) := by omega
        obtain ⟨sa, esa⟩ : ∃ s, s = vtT z.a := ⟨_, rfl⟩
        obtain ⟨sb, esb⟩ : ∃ s, s = vtT z.b := ⟨_, rfl⟩
        have a0 : wr.cell? ⟨g, o + k * 4, none⟩ = some (.int .i64 (j : Int)) := by rw [← hw]; exact ho.cell_some (hr 0 _ rfl) (fun e => e)
        have a1 : wr.cell? ⟨g, o + k * 4 + 1, none⟩ = some (.int .i64 44) := ho.cell_some (hr 1 _ rfl) (fun e => e)
        have a2 : wr.cell? ⟨g, o + k * 4 + 2, none⟩ = some (.string sa) := by rw [esa]; exact ho.cell_some (hr 2 _ rfl) (fun e => e)
        have a3 : wr.cell? ⟨g, o + k * 4 + 3, none⟩ = some (.string sb) := by rw [esb]; exact ho.cell_some (hr 3 _ rfl) (fun e => e)
        have by1 := bit16z x j
        have by2 := bit16z y j
        rw [hb1] at by1
        rw [hb2] at by2
        have HS := Lib.hid (And.intro hS ho)
        clear hS ho hr hz esa esb hw hb1 hb2
        obtain ⟨D, eD⟩ : ∃ D, D = wr.heap.size := ⟨_, rfl⟩
        have hZ0 : Blk (wr.alloc (.cells #[.int .i64 (j : Int), .int .i64 44, .string sa, .string sb] 57)) D 57 #[.int .i64 (j : Int), .int .i64 44, .string sa, .string sb] ∧ FkS w B F d kA kc x y N M a b base C t9 s9 (wr.alloc (.cells #[.int .i64 (j : Int), .int .i64 44, .string sa, .string sb] 57)) ∧ Only NoneOf w10 (wr.alloc (.cells #[.int .i64 (j : Int), .int .i64 44, .string sa, .string sb] 57)) :=
          ⟨by rw [eD]; exact Blk.new wr _ _, HS.out.1.keep ((Only.refl _ _).alloc _), HS.out.2.alloc _⟩
        have HZ0 := Lib.hid hZ0
        have ED := Lib.hid eD
        clear hZ0 eD HS
        go_upto_region 14 with (fail)
        rw [← ED.out]
        refine wp_gen (fun Z => Blk Z D 57 #[.int .i64 (j : Int), .int .i64 44, .string sa, .string sb] ∧ FkS w B F d kA kc x y N M a b base C t9 s9 Z ∧ Only NoneOf w10 Z) HZ0.out ?_
        clear HZ0 ED a0 a1 a2 a3
        rintro Z ⟨hD, hS, ho⟩
        have q0 : Z.cell? ⟨D, 0, none⟩ = some (.int .i64 (j : Int)) := hD.cell 0
        have q1 : Z.cell? ⟨D, 1, none⟩ = some (.int .i64 44) := hD.cell 1
        have q2 : Z.cell? ⟨F, 0, none⟩ = some (.int .u16 (x : Int)) := hS.arg.bits.cell 0
        have q3 : Z.cell? ⟨F, 1, none⟩ = some (.int .u16 (y : Int)) := hS.arg.bits.cell 1
        have HS := Lib.hid (And.intro hS ho)
        clear hS ho hD
        go_wp2_with fail
        go_roundw
        case rel => exact ⟨k + 1, by go_num, by omega, HS.out.1, HS.out.2⟩
        case measure => simp [intOf]; omega
      · obtain rfl : k = BL.length := by omega
        have c0 : wr.cell? ⟨B, 0, none⟩ = some (.int .u8 (d.off : Int)) := hS.arg.wd.cell 0
        have HS := Lib.hid hS
        clear hS
        have hoff := hd.off
        have hdn : d.n = 1 + d.off % 7 := rfl
        have d3 : decide (1 + (d.off : Int) % 7 < 3 * (BL.length : Int)) = true := decide_eq_true (by omega)
        go_wp2_with fail
        refine (KSF.out _ HS.out).mono ?_
        rintro e11 w11 ⟨rfl, ho11⟩
        have HF2 := Lib.hid (HS.out.has.only.trans ho11)
        clear ho11 HS
        go_wp2_with fail
        go_ret
        exact ⟨rfl, HF2.out⟩
end Go.Proofs.YtgalfohobgjelaaGreatDoor
