/- What is proved here: several parts. the check of the client laws answers true. Condition: the table of powers of ten reads as its initialiser lays it. · the law on clients that are nil or zero. Conditions: what comes in is well and short; the table of powers of ten lies. -/
import Derived.Test.YtgalfohobgjelaaGreatDoorNi19
import Derived.Test.YtgalfohobgjelaaGreatDoorNi30
import Derived.Test.YtgalfohobgjelaaGreatDoorNi32
import Derived.BigQuiet
import Derived.Deep.DeepCutAuto
namespace Go.Proofs.YtgalfohobgjelaaGreatDoor
open Go.RowKit Go.Shelf
attribute [local go_sem ↓ high] wdLoad_eq hdLoad_eq hdNew_eq hdStore_eq
def sAb : List ByteArray := [⟨#[97]⟩, ⟨#[98]⟩]
def sAbc : List ByteArray := [⟨#[97]⟩, ⟨#[98]⟩, ⟨#[99]⟩]
def sAbx : List ByteArray := [⟨#[97]⟩, ⟨#[98]⟩, ⟨#[120]⟩]
theorem sAbc_short : ShortTs sAbc := fun x hx => by
  simp only [sAbc, List.mem_cons, List.not_mem_nil, or_false] at hx
  rcases hx with rfl | rfl | rfl <;> decide
theorem sAbx_short : ShortTs sAbx := fun x hx => by
  simp only [sAbx, List.mem_cons, List.not_mem_nil, or_false] at hx
  rcases hx with rfl | rfl | rfl <;> decide
theorem sAb_short : ShortTs sAb := fun x hx => by
  simp only [sAb, List.mem_cons, List.not_mem_nil, or_false] at hx
  rcases hx with rfl | rfl <;> decide
/-- A slice of a block of texts. -/
theorem blk_st {W : World} {G : Nat} {cs : Array Value} (L : List ByteArray) (h : Blk W G 9 cs) (cap : Nat) (hc : L.length ≤ cap) (hm : cap ≤ 1000) (e : ∀ (i : Nat) (p : ByteArray), L[i]? = some p → cs[i]? = some (Value.string p)) : StSl W (.slice (some ⟨G, 0, none⟩) L.length cap) L :=
  ⟨_, cap, rfl, hc, by omega, fun i p hp => ⟨G, 0, rfl, by
    rw [Nat.zero_add, h.cell]; exact e i p hp⟩⟩
/-- What lies there ahead of the heads. -/
structure SnP (w : World) (base C top B G : Nat) (s : Vw) (W : World) : Prop where
  has : Has w base C top s W
  wd : Blk W B tWd (wdC wd3 none 0)
  l : Blk W G 9 #[.string ⟨#[97]⟩, .string ⟨#[98]⟩, .string ⟨#[99]⟩]
theorem SnP.keep {w : World} {base C top B G : Nat} {s : Vw} {W W' : World} (h : SnP w base C top B G s W) (ho : Only NoneOf W W') : SnP w base C top B G s W' :=
  ⟨h.has.keep ho, h.wd.only ho (fun e => e), h.l.only ho (fun e => e)⟩
theorem SnP.two {w : World} {base C top B G : Nat} {s : Vw} {W : World} (h : SnP w base C top B G s W) : StSl W (.slice (some ⟨G, 0, none⟩) 2 3) sAb :=
  blk_st sAb h.l 3 (by decide) (by omega) (fun i p hp => by
    match i, hp with
    | 0, rfl | 1, rfl => rfl)
theorem SnP.three {w : World} {base C top B G : Nat} {s : Vw} {W : World} (h : SnP w base C top B G s W) : StSl W (.slice (some ⟨G, 0, none⟩) 3 3) sAbc :=
  blk_st sAbc h.l 3 (by decide) (by omega) (fun i p hp => by
    match i, hp with
    | 0, rfl | 1, rfl | 2, rfl => rfl)
theorem new_three (W : World) : StSl (W.alloc (.cells #[.string ⟨#[97]⟩, .string ⟨#[98]⟩, .string ⟨#[120]⟩] 9)) (.slice (some ⟨W.heap.size, 0, none⟩) 3 3) sAbx :=
  blk_st sAbx (Blk.new W _ _) 3 (by decide) (by omega) (fun i p hp => by
    match i, hp with
    | 0, rfl | 1, rfl | 2, rfl => rfl)
/-- What lies there. -/
structure SnS (w : World) (base C top B A1 A2 A3 : Nat) (a b x : Hd) (gv : Value) (Q : List Hs) (s : Vw) (W : World) : Prop where
  has : Has w base C top s W
  wd : Blk W B tWd (wdC wd3 none 0)
  g : HaOwn W w.heap.size gv Q.length Q
  a : HdAt W A1 a
  b : HdAt W A2 b
  x : HdAt W A3 x
section
variable {w : World} {base C top B A1 A2 A3 : Nat} {a b x : Hd} {gv : Value} {Q : List Hs} {s s' : Vw} {W W' : World}
theorem SnS.keep (h : SnS w base C top B A1 A2 A3 a b x gv Q s W) (ho : Only NoneOf W W') : SnS w base C top B A1 A2 A3 a b x gv Q s W' :=
  ⟨h.has.keep ho, h.wd.only ho (fun e => e), own_only h.g ho (fun _ _ e => e), Blk.only h.a ho (fun e => e), Blk.only h.b ho (fun e => e), Blk.only h.x ho (fun e => e)⟩
theorem SnS.near {top' : Nat} (h : SnS w base C top B A1 A2 A3 a b x gv Q s W) (hn : Near base W W') (hh : Has w base C top' s' W') : SnS w base C top' B A1 A2 A3 a b x gv Q s' W' :=
  ⟨hh, hn.blk h.wd (by decide) (by decide) (by decide), hn.own h.g (by decide) (by decide) (by decide), hn.blk h.a (by decide) (by decide) (by decide), hn.blk h.b (by decide) (by decide) (by decide), hn.blk h.x (by decide) (by decide) (by decide)⟩
end
theorem haSl_nil (W : World) : HaSl W (.slice none 0 0) [] := ⟨none, 0, rfl, Nat.le_refl _, by omega, fun i p hp => by simp at hp⟩
theorem vtOwn_nil (W : World) (b : Nat) : VtOwn W b (.slice none 0 0) 0 [] := ⟨rfl, .inl ⟨rfl, rfl⟩⟩
/-- A call of Head whose votes are all for one certified head. -/
theorem san_head (w : World) (ht : Tab w) {base C top B A1 A2 A3 : Nat} {a b x : Hd} {gv : Value} {Q : List Hs} {s : Vw} {W : World} (hZ : SnS w base C top B A1 A2 A3 a b x gv Q s W) (hP : s.P = setW wd3) (hsm : SmallH s.head) (hn : s.votes.length ≤ 1000) (L : List Vt) (hok : VtsOk L) (hsv : SmallV L) (hL : L.length ≤ 1000) (h : Option Hd) (hbest : ∀ o, BestL (setW wd3) L o → o = h) (sv : Value) (hs : VtOwn W top sv L.length L) (q : List Hs) (hqok : HsOk q) (hql : q.length ≤ 1000) (qv : Value) (hq : HaSl W qv q) (hqa : Off base W qv) (s' : Vw) (hs' : { s with votes := takeV s.votes L, head := hdNext h (knownH s.head) q s.head } = s') (n : Int) (hr : hdRes h (knownH s.head) q = n) :
    Calls Tryz.prog 19 #[.pointer (some ⟨C, 0, none⟩), sv, qv] W fun e w' => e = .returned (.int .i64 n) ∧ ∃ top', SnS w base C top' B A1 A2 A3 a b x gv Q s' w' := by
  refine (has_head w ht (by rw [hP]; exact setW_ok _) (by rw [hP]; exact setW_len _) hsm L hok hsv hL (by omega) sv q hqok (by omega) qv W hZ.has (hs.sl hok) (offV_top hs (Nat.le_refl _)) hq hqa).mono ?_
  rintro e w' ⟨o, ho, he, hh, hnr⟩
  rw [hP] at ho
  have := hbest o ho
  subst this
  rw [hs'] at hh
  rw [hr] at he
  exact ⟨he, _, hZ.near hnr hh⟩
def ab : Hd := hdOf sAb
def abc : Hd := hdOf sAbc
def abx : Hd := hdOf sAbx
theorem ab_ok : ab.Ok := hdOf_ok (by decide)
theorem abc_ok : abc.Ok := hdOf_ok (by decide)
theorem abx_ok : abx.Ok := hdOf_ok (by decide)
theorem known_ab : knownH ab = ab := by unfold knownH; rw [if_neg (by decide)]
theorem known_abc : knownH abc = abc := by unfold knownH; rw [if_neg (by decide)]
theorem known_hd0 : knownH hd0 = ⟨0, rootL []⟩ := by unfold knownH; rw [if_pos (show hd0.size = 0 from rfl)]
theorem ab_rt : ab.root = rootL (txs sAb) := rfl
theorem abc_rt : abc.root = rootL (txs sAbc) := rfl
theorem abx_rt : abx.root = rootL (txs sAbx) := rfl
theorem txs_abc : txs sAbc = [[97], [98], [99]] := rfl
theorem txs_abx : txs sAbx = [[97], [98], [120]] := rfl
theorem abc_root : abc.root = rootL [[97], [98], [99]] := by rw [abc_rt, txs_abc]
theorem abx_root : abx.root = rootL [[97], [98], [120]] := by rw [abx_rt, txs_abx]
theorem root_abx : abc.root ≠ abx.root := by
  rw [abc_root, abx_root]
  exact beq_eq_false_iff_ne.1 roots_differ
theorem ne_abx : abc ≠ abx := fun e => root_abx (by rw [e])
theorem size_ab : ab.size = 2 := rfl
theorem size_abc : abc.size = 3 := rfl
theorem size_abx : abx.size = 3 := rfl
theorem ne_ab_abc : ab ≠ abc := fun e => by have := congrArg Hd.size e; rw [size_ab, size_abc] at this; omega
theorem ne_ab_abx : ab ≠ abx := fun e => by have := congrArg Hd.size e; rw [size_ab, size_abx] at this; omega
theorem res1 : hdRes (some ab) (knownH hd0) [] = 0 := by
  rw [known_hd0]
  unfold hdRes
  simp only
  rw [size_ab, if_neg (by decide), if_neg (by decide), if_pos]
  exact ckL_zero _ _
theorem res2 : hdRes (some abc) (knownH ab) (growL (txs sAbc) 2) = 0 := by
  rw [known_ab]
  unfold hdRes
  simp only
  rw [size_ab, size_abc, if_neg (by decide), if_neg (by decide), if_pos]
  have h := ckL_grow (txs sAbc) 2 (by rw [txs_len]; show 3 ≤ 1000000; omega) (by rw [txs_len]; show 2 < 3; omega)
  have e1 : (txs sAbc).length = 3 := rfl
  have e2 : (txs sAbc).take 2 = txs sAb := rfl
  rw [e1, e2, ← ab_rt, ← abc_rt] at h
  exact h
theorem res3 : hdRes (some ab) (knownH abc) [] = 32 := by
  rw [known_abc]
  unfold hdRes
  simp only
  rw [size_ab, size_abc, if_pos (by decide)]
theorem res4 : hdRes (some abx) (knownH abc) [] = 44 := by
  rw [known_abc]
  unfold hdRes
  simp only
  rw [size_abx, size_abc, if_neg (by decide), if_pos rfl, if_neg (Ne.symm root_abx)]
noncomputable def sn0 : Vw := ⟨60, setW wd3, false, ⟨#[]⟩, hd0, [], false⟩
noncomputable def sn1 : Vw := { sn0 with votes := [vAt ab 1, vAt ab 2, vAt ab 3], head := ab }
noncomputable def sn2 : Vw := { sn0 with votes := [vAt ab 1, vAt ab 2, vAt ab 3, vAt abc 1, vAt abc 2, vAt abc 3], head := abc }
noncomputable def sn4 : Vw := { sn0 with votes := [vAt ab 1, vAt ab 2, vAt ab 3, vAt abc 1, vAt abc 2, vAt abc 3, vAt abx 2, vAt abx 3, vAt abx 4], head := abc }
theorem sn_0 : { sn0 with votes := takeV sn0.votes [], head := hdNext none (knownH sn0.head) [] sn0.head } = sn0 := by
  unfold hdNext hdRes
  simp only
  rw [if_neg (by decide)]
  rfl
theorem sn_1 : { sn0 with votes := takeV sn0.votes (votesW wd3 ab 14 0), head := hdNext (some ab) (knownH sn0.head) [] sn0.head } = sn1 := by
  have h1 : hdNext (some ab) (knownH sn0.head) [] sn0.head = ab := by
    unfold hdNext
    rw [show sn0.head = hd0 from rfl, if_pos res1]
    rfl
  rw [h1, votes14, show takeV sn0.votes _ = _ from take_one ab]
  rfl
theorem sn_2 : { sn1 with votes := takeV sn1.votes (votesW wd3 abc 14 0), head := hdNext (some abc) (knownH sn1.head) (growL (txs sAbc) 2) sn1.head } = sn2 := by
  have h1 : hdNext (some abc) (knownH sn1.head) (growL (txs sAbc) 2) sn1.head = abc := by
    unfold hdNext
    rw [show sn1.head = ab from rfl, if_pos res2]
    rfl
  rw [h1, votes14, show takeV sn1.votes _ = _ from take_two ne_ab_abc]
  rfl
theorem sn_3 : { sn2 with votes := takeV sn2.votes (votesW wd3 ab 14 0), head := hdNext (some ab) (knownH sn2.head) [] sn2.head } = sn2 := by
  have h1 : hdNext (some ab) (knownH sn2.head) [] sn2.head = abc := by
    unfold hdNext
    rw [show sn2.head = abc from rfl, res3, if_neg (by decide)]
  rw [h1, votes14, show takeV sn2.votes _ = _ from take_again]
  rfl
theorem sn_4 : { sn2 with votes := takeV sn2.votes (votesW wd3 abx 28 0), head := hdNext (some abx) (knownH sn2.head) [] sn2.head } = sn4 := by
  have h1 : hdNext (some abx) (knownH sn2.head) [] sn2.head = abc := by
    unfold hdNext
    rw [show sn2.head = abc from rfl, res4, if_neg (by decide)]
  rw [h1, votes28, show takeV sn2.votes _ = _ from take_three ne_ab_abx ne_abx]
  rfl
theorem bl_2 : blL sn2.P sn2.votes = [] := blames_none (a := ab) (b := abc) (by rw [size_ab, size_abc]; decide)
theorem bl_4 : blL sn4.P sn4.votes = [⟨2, vAt abc 2, vAt abx 2⟩, ⟨3, vAt abc 3, vAt abx 3⟩] := blames_two (a := ab) (b := abc) (x := abx) (by rw [size_ab, size_abc]; decide) (by rw [size_ab, size_abx]; decide) (by rw [size_abc, size_abx]) ne_abx
set_option maxRecDepth 100000 in
set_option maxHeartbeats 4000000 in
theorem sanity31 (w : World) (ht : Tab w) : Calls Tryz.prog 11 #[] w fun e w' => e = .returned (.bool true) ∧ Only NoneOf w w' := by
  obtain ⟨B, eB⟩ : ∃ B, B = w.heap.size := ⟨_, rfl⟩
  have hS0 : Blk (w.alloc (.cells #[.int .u8 3, .slice none 0 0, .int .u8 0] 24)) B tWd (wdC wd3 none 0) ∧ Only NoneOf w (w.alloc (.cells #[.int .u8 3, .slice none 0 0, .int .u8 0] 24)) := ⟨by rw [eB]; exact Blk.new w _ _, (Only.refl _ _).alloc _⟩
  obtain ⟨WV, eWV⟩ : ∃ v : Array Value, v = wdC wd3 none 0 := ⟨_, rfl⟩
  have hset : ∀ W, Calls Tryz.prog 18 #[.agg WV] W fun e' w' => ∃ pv, e' = .returned (setV pv) ∧ PerSl w' pv (setW wd3) ∧ Only NoneOf W w' := fun W => by rw [eWV]; exact wsetup_any wd3 wd3_ok none 0 W
  have hv14 : ∀ (h : Hd) W, h.Ok → Calls Tryz.prog 14 #[.agg WV, .agg (hdC h).toArray, .int .u16 14, .int .u16 0] W fun e' w' => ∃ rv, e' = .returned rv ∧ VtOwn w' W.heap.size rv (votesW wd3 h 14 0).length (votesW wd3 h 14 0) ∧ Only NoneOf W w' := fun h W ok => by rw [eWV]; exact wvotes_any wd3 wd3_ok h ok 14 0 (by omega) (by omega) none 0 W
  have hv28 : ∀ (h : Hd) W, h.Ok → Calls Tryz.prog 14 #[.agg WV, .agg (hdC h).toArray, .int .u16 28, .int .u16 0] W fun e' w' => ∃ rv, e' = .returned rv ∧ VtOwn w' W.heap.size rv (votesW wd3 h 28 0).length (votesW wd3 h 28 0) ∧ Only NoneOf W w' := fun h W ok => by rw [eWV]; exact wvotes_any wd3 wd3_ok h ok 28 0 (by omega) (by omega) none 0 W
  have hnew : ∀ W pv, Only NoneOf w W → PerSl W pv (setW wd3) → Calls Tryz.prog 17 #[.int .i64 60, setV pv] W fun e w' => ∃ C, e = .returned (.pointer (some ⟨C, 0, none⟩)) ∧ Has w W.heap.size C w'.heap.size sn0 w' ∧ Only NoneOf W w' := fun W pv ho hp => has_new w 60 (setW wd3) (setW_len _) pv W ho hp
  obtain ⟨a, ea⟩ : ∃ h, h = ab := ⟨_, rfl⟩
  obtain ⟨b, eb⟩ : ∃ h, h = abc := ⟨_, rfl⟩
  obtain ⟨x, ex⟩ : ∃ h, h = abx := ⟨_, rfl⟩
  obtain ⟨Q, eQ⟩ : ∃ q, q = growL (txs sAbc) 2 := ⟨_, rfl⟩
  have hha : ∀ W base C top G, SnP w base C top B G sn0 W → Calls Tryz.prog 15 #[.slice (some ⟨G, 0, none⟩) 2 3] W fun e w' => e = .returned (.agg (hdC a).toArray) ∧ Only NoneOf W w' := fun W _ _ _ _ h => by rw [ea]; exact rheadof_any sAb (by decide) sAb_short _ W h.two
  have hhb : ∀ W base C top G, SnP w base C top B G sn0 W → Calls Tryz.prog 15 #[.slice (some ⟨G, 0, none⟩) 3 3] W fun e w' => e = .returned (.agg (hdC b).toArray) ∧ Only NoneOf W w' := fun W _ _ _ _ h => by rw [eb]; exact rheadof_any sAbc (by decide) sAbc_short _ W h.three
  have hhx : ∀ W : World, Calls Tryz.prog 15 #[.slice (some ⟨W.heap.size, 0, none⟩) 3 3] (W.alloc (.cells #[.string ⟨#[97]⟩, .string ⟨#[98]⟩, .string ⟨#[120]⟩] 9)) fun e w' => e = .returned (.agg (hdC x).toArray) ∧ Only NoneOf (W.alloc (.cells #[.string ⟨#[97]⟩, .string ⟨#[98]⟩, .string ⟨#[120]⟩] 9)) w' := fun W => by rw [ex]; exact rheadof_any sAbx (by decide) sAbx_short _ _ (new_three W)
  have hgr : ∀ W base C top G, SnP w base C top B G sn0 W → Calls Tryz.prog 21 #[.slice (some ⟨G, 0, none⟩) 3 3, .int .i64 2] W fun e w' => ∃ gv, e = .returned (.tuple #[gv, .bool true]) ∧ HaOwn w' W.heap.size gv Q.length Q ∧ Only NoneOf W w' := fun W _ _ _ _ h => by rw [eQ]; exact rgrowth_any sAbc 2 (by decide) (by decide) sAbc_short _ W h.three
  have la : a.root.length = 32 := by rw [ea]; exact ab_ok.root
  have lb : b.root.length = 32 := by rw [eb]; exact abc_ok.root
  have lx : x.root.length = 32 := by rw [ex]; exact abx_ok.root
  have oa : a.Ok := by rw [ea]; exact ab_ok
  have ob : b.Ok := by rw [eb]; exact abc_ok
  have ox : x.Ok := by rw [ex]; exact abx_ok
  have qok : HsOk Q := by
    rw [eQ]
    unfold growL
    split
    · exact fun _ h => by cases h
    · exact fun h hh => growF_ok _ _ _ _ h (List.mem_reverse.1 hh)
  have qlen : Q.length ≤ 1000 := by
    rw [eQ]
    unfold growL
    split
    · exact Nat.zero_le _
    · rw [List.length_reverse]
      exact Nat.le_trans (growF_len _ _ _ _) (by decide)
  have k0 : ∀ W base C top A1 A2 A3 gv, SnS w base C top B A1 A2 A3 a b x gv Q sn0 W → Calls Tryz.prog 19 #[.pointer (some ⟨C, 0, none⟩), .slice none 0 0, .slice none 0 0] W fun e w' => e = .returned (.int .i64 24) ∧ ∃ top', SnS w base C top' B A1 A2 A3 a b x gv Q sn0 w' := fun W base C top A1 A2 A3 gv hZ =>
    san_head w ht hZ rfl hd0_small (by decide) [] (fun _ h => by cases h) (fun _ h => by cases h) (by decide) none (fun o ho => best_nil _ ho) _ (vtOwn_nil _ _) [] (fun _ h => by cases h) (by decide) _ (haSl_nil _) (off_nil _ _) _ sn_0 24 rfl
  have k1 : ∀ W base C top A1 A2 A3 gv sv, SnS w base C top B A1 A2 A3 a b x gv Q sn0 W → VtOwn W top sv (votesW wd3 a 14 0).length (votesW wd3 a 14 0) → Calls Tryz.prog 19 #[.pointer (some ⟨C, 0, none⟩), sv, .slice none 0 0] W fun e w' => e = .returned (.int .i64 0) ∧ ∃ top', SnS w base C top' B A1 A2 A3 a b x gv Q sn1 w' := fun W base C top A1 A2 A3 gv sv hZ hs => by
    subst ea
    exact san_head w ht hZ rfl hd0_small (by decide) _ (votesW_ok _ oa _ _) (votesW_small _ (hdOf_small (by decide)) _ _) (Nat.le_trans (votesW_len _ _ _ _) (by decide)) (some ab) (fun o ho => best14 _ ho) sv hs [] (fun _ h => by cases h) (by decide) _ (haSl_nil _) (off_nil _ _) _ sn_1 0 res1
  have k2 : ∀ W base C top A1 A2 A3 gv sv, SnS w base C top B A1 A2 A3 a b x gv Q sn1 W → VtOwn W top sv (votesW wd3 b 14 0).length (votesW wd3 b 14 0) → Calls Tryz.prog 19 #[.pointer (some ⟨C, 0, none⟩), sv, gv] W fun e w' => e = .returned (.int .i64 0) ∧ ∃ top', SnS w base C top' B A1 A2 A3 a b x gv Q sn2 w' := fun W base C top A1 A2 A3 gv sv hZ hs => by
    subst eb
    have h2 := res2
    have h3 := sn_2
    rw [← eQ] at h2 h3
    exact san_head w ht hZ rfl (hdOf_small (by decide)) (by show (3 : Nat) ≤ 1000; omega) _ (votesW_ok _ ob _ _) (votesW_small _ (hdOf_small (by decide)) _ _) (Nat.le_trans (votesW_len _ _ _ _) (by decide)) (some abc) (fun o ho => best14 _ ho) sv hs Q qok qlen _ (hZ.g.sl qok) (off_own hZ.g (by decide) (by decide) (by decide)) _ h3 0 h2
  have k3 : ∀ W base C top A1 A2 A3 gv sv, SnS w base C top B A1 A2 A3 a b x gv Q sn2 W → VtOwn W top sv (votesW wd3 a 14 0).length (votesW wd3 a 14 0) → Calls Tryz.prog 19 #[.pointer (some ⟨C, 0, none⟩), sv, .slice none 0 0] W fun e w' => e = .returned (.int .i64 32) ∧ ∃ top', SnS w base C top' B A1 A2 A3 a b x gv Q sn2 w' := fun W base C top A1 A2 A3 gv sv hZ hs => by
    subst ea
    exact san_head w ht hZ rfl (hdOf_small (by decide)) (by show (6 : Nat) ≤ 1000; omega) _ (votesW_ok _ oa _ _) (votesW_small _ (hdOf_small (by decide)) _ _) (Nat.le_trans (votesW_len _ _ _ _) (by decide)) (some ab) (fun o ho => best14 _ ho) sv hs [] (fun _ h => by cases h) (by decide) _ (haSl_nil _) (off_nil _ _) _ sn_3 32 res3
  have k4 : ∀ W base C top A1 A2 A3 gv sv, SnS w base C top B A1 A2 A3 a b x gv Q sn2 W → VtOwn W top sv (votesW wd3 x 28 0).length (votesW wd3 x 28 0) → Calls Tryz.prog 19 #[.pointer (some ⟨C, 0, none⟩), sv, .slice none 0 0] W fun e w' => e = .returned (.int .i64 44) ∧ ∃ top', SnS w base C top' B A1 A2 A3 a b x gv Q sn4 w' := fun W base C top A1 A2 A3 gv sv hZ hs => by
    subst ex
    exact san_head w ht hZ rfl (hdOf_small (by decide)) (by show (6 : Nat) ≤ 1000; omega) _ (votesW_ok _ ox _ _) (votesW_small _ (hdOf_small (by decide)) _ _) (Nat.le_trans (votesW_len _ _ _ _) (by decide)) (some abx) (fun o ho => best28 _ ho) sv hs [] (fun _ h => by cases h) (by decide) _ (haSl_nil _) (off_nil _ _) _ sn_4 44 res4
  have kb2 : ∀ W base C top A1 A2 A3 gv, SnS w base C top B A1 A2 A3 a b x gv Q sn2 W → Calls Tryz.prog 20 #[.pointer (some ⟨C, 0, none⟩)] W fun e w' => ∃ ov, e = .returned ov ∧ BlSl w' ov [] ∧ Only NoneOf W w' := fun W base C top A1 A2 A3 gv hZ => by
    rw [← bl_2]
    exact has_blames w ht (setW_ok _) (setW_len _) (by show (6 : Nat) ≤ 100000; omega) W hZ.has
  have kb4 : ∀ W base C top A1 A2 A3 gv, SnS w base C top B A1 A2 A3 a b x gv Q sn4 W → Calls Tryz.prog 20 #[.pointer (some ⟨C, 0, none⟩)] W fun e w' => ∃ ov, e = .returned ov ∧ BlSl w' ov [⟨2, vAt abc 2, vAt abx 2⟩, ⟨3, vAt abc 3, vAt abx 3⟩] ∧ Only NoneOf W w' := fun W base C top A1 A2 A3 gv hZ => by
    rw [← bl_4]
    exact has_blames w ht (setW_ok _) (setW_len _) (by show (9 : Nat) ≤ 100000; omega) W hZ.has
  have HS0 := Lib.hid hS0
  have EB := Lib.hid eB
  have EWV := Lib.hid eWV
  have HSET := Lib.hid hset
  have HV14 := Lib.hid hv14
  have HV28 := Lib.hid hv28
  have HNEW := Lib.hid hnew
  have HHA := Lib.hid hha
  have HHB := Lib.hid hhb
  have HHX := Lib.hid hhx
  have HGR := Lib.hid hgr
  have LA := Lib.hid la
  have LB := Lib.hid lb
  have LX := Lib.hid lx
  have OA := Lib.hid oa
  have OB := Lib.hid ob
  have OX := Lib.hid ox
  have K0 := Lib.hid k0
  have K1 := Lib.hid k1
  have K2 := Lib.hid k2
  have K3 := Lib.hid k3
  have K4 := Lib.hid k4
  have KB2 := Lib.hid kb2
  have KB4 := Lib.hid kb4
  clear hS0 eB eWV hset hv14 hv28 hnew hha hhb hhx hgr la lb lx oa ob ox k0 k1 k2 k3 k4 kb2 kb4 ea eb ex eQ qok qlen ht
  go_enter Tryz.func11, Tryz.ntmps11
  go_upto_region 2 with (fail)
  rw [← EB.out]
  refine wp_gen (fun Z => Blk Z B tWd (wdC wd3 none 0) ∧ Only NoneOf w Z) HS0.out ?_
  clear HS0
  rintro Z ⟨hB, hO⟩
  have l1 := wd_load hB
  rw [← EWV.out] at l1
  have HZ := Lib.hid (And.intro hB hO)
  clear hB hO
  go_wp2_with fail
  refine (HSET.out _).mono ?_
  rintro e1 w1 ⟨pv, rfl, hpv, ho1⟩
  have H1 := Lib.hid (And.intro hpv (And.intro (HZ.out.1.only ho1 (fun e => e)) (HZ.out.2.trans ho1)))
  clear hpv ho1 l1 HZ
  go_wp2_with fail
  refine (HNEW.out _ _ H1.out.2.2 H1.out.1).mono ?_
  rintro e2 w2 ⟨C, rfl, hh2, ho2⟩
  obtain ⟨G, eG⟩ : ∃ G, G = w2.heap.size := ⟨_, rfl⟩
  obtain ⟨base, ebase⟩ : ∃ n, n = w1.heap.size := ⟨_, rfl⟩
  rw [← ebase] at hh2
  have hP0 : SnP w base C w2.heap.size B G sn0 (w2.alloc (.cells #[.string ⟨#[97]⟩, .string ⟨#[98]⟩, .string ⟨#[99]⟩] 9)) :=
    ⟨hh2.keep ((Only.refl _ _).alloc _), (H1.out.2.1.only ho2 (fun e => e)).alloc _, by rw [eG]; exact Blk.new w2 _ _⟩
  have HP0 := Lib.hid hP0
  have EG := Lib.hid eG
  clear hP0 hh2 ho2 H1 eG ebase
  go_upto_region 4 with (fail)
  rw [← EG.out]
  rw [← EG.out] at HP0
  refine wp_gen (SnP w base C G B G sn0) HP0.out ?_
  clear HP0
  intro Z hZ
  have HZ := Lib.hid hZ
  clear hZ EG
  go_wp2_with fail
  refine (HHA.out _ _ _ _ _ HZ.out).mono ?_
  rintro e3 w3 ⟨rfl, ho3⟩
  have HZ3 := Lib.hid (HZ.out.keep ho3)
  clear ho3 HZ
  go_wp2_with fail
  refine (HHB.out _ _ _ _ _ HZ3.out).mono ?_
  rintro e4 w4 ⟨rfl, ho4⟩
  have HZ4 := Lib.hid (HZ3.out.keep ho4)
  clear ho4 HZ3
  go_wp2_with fail
  refine (HHX.out _).mono ?_
  rintro e5 w5 ⟨rfl, ho5⟩
  have HZ5 := Lib.hid (HZ4.out.keep (((Only.refl NoneOf _).alloc _).trans ho5))
  clear ho5 HZ4
  obtain ⟨W3, ew3, st1, st2, st3, f1, f2, f3, o3⟩ := three_heads w5 LA.out LB.out LX.out w5.heap.size (w5.heap.size + 1) (w5.heap.size + 1 + 1) rfl rfl rfl
  subst ew3
  have hnw := hdNew_run
  obtain ⟨A1, eA1⟩ : ∃ n, n = w5.heap.size := ⟨_, rfl⟩
  have hS5 : SnS w base C G B A1 (A1 + 1) (A1 + 1 + 1) a b x (.slice none 0 0) [] sn0 (((((w5.alloc (.cells hd0C tHd)).alloc (.cells hd0C tHd)).alloc (.cells hd0C tHd)).setCells w5.heap.size 0 (hdC a)).setCells (w5.heap.size + 1) 0 (hdC b) |>.setCells (w5.heap.size + 1 + 1) 0 (hdC x)) := by
    have h := HZ5.out.keep o3
    rw [eA1]
    exact ⟨h.has, h.wd, ⟨rfl, .inl ⟨rfl, rfl⟩⟩, f1, f2, f3⟩
  have HP5 := Lib.hid (And.intro (HZ5.out.keep o3) hS5)
  have EA1 := Lib.hid eA1
  clear f1 f2 f3 o3 hS5 eA1 HZ5
  go_upto_region 5 with (fail)
  rw [← EA1.out]
  rw [← EA1.out] at HP5
  refine wp_gen (fun W => SnP w base C G B G sn0 W ∧ SnS w base C G B A1 (A1 + 1) (A1 + 1 + 1) a b x (.slice none 0 0) [] sn0 W) HP5.out ?_
  clear HP5 st1 st2 st3 hnw EA1
  intro Y hY
  have HY := Lib.hid hY
  clear hY
  go_wp2_with fail
  refine (HGR.out _ _ _ _ _ HY.out.1).mono ?_
  rintro e6 w6 ⟨gv, rfl, hgv, ho6⟩
  have hS6 : SnS w base C G B A1 (A1 + 1) (A1 + 1 + 1) a b x gv Q sn0 w6 := by
    have h := HY.out.2.keep ho6
    exact ⟨h.has, h.wd, own_lower hgv (HY.out.2.has.only).size, h.a, h.b, h.x⟩
  have H6 := Lib.hid hS6
  clear hgv ho6 hS6 HY
  go_wp2_with fail
  refine (K0.out _ _ _ _ _ _ _ _ H6.out).mono ?_
  rintro e7 w7 ⟨rfl, t7, hS7⟩
  have lw := wd_load hS7.wd
  rw [← EWV.out] at lw
  have lh := hd_load (blk_range hS7.a) LA.out
  have H7 := Lib.hid hS7
  clear hS7 H6
  go_wp2_with fail
  refine (HV14.out _ _ OA.out).mono ?_
  rintro e8 w8 ⟨v8, rfl, hv8, ho8⟩
  have H8 := Lib.hid (And.intro (H7.out.keep ho8) (own_lower hv8 H7.out.has.size))
  clear hv8 ho8 lw lh H7
  go_wp2_with fail
  refine (K1.out _ _ _ _ _ _ _ _ _ H8.out.1 H8.out.2).mono ?_
  rintro e9 w9 ⟨rfl, t9, hS9⟩
  have lw := wd_load hS9.wd
  rw [← EWV.out] at lw
  have lh := hd_load (blk_range hS9.b) LB.out
  have H9 := Lib.hid hS9
  clear hS9 H8
  go_wp2_with fail
  refine (HV14.out _ _ OB.out).mono ?_
  rintro e10 w10 ⟨v10, rfl, hv10, ho10⟩
  have H10 := Lib.hid (And.intro (H9.out.keep ho10) (own_lower hv10 H9.out.has.size))
  clear hv10 ho10 lw lh H9
  go_wp2_with fail
  refine (K2.out _ _ _ _ _ _ _ _ _ H10.out.1 H10.out.2).mono ?_
  rintro e11 w11 ⟨rfl, t11, hS11⟩
  have lw := wd_load hS11.wd
  rw [← EWV.out] at lw
  have lh := hd_load (blk_range hS11.a) LA.out
  have H11 := Lib.hid hS11
  clear hS11 H10
  go_wp2_with fail
  refine (HV14.out _ _ OA.out).mono ?_
  rintro e12 w12 ⟨v12, rfl, hv12, ho12⟩
  have H12 := Lib.hid (And.intro (H11.out.keep ho12) (own_lower hv12 H11.out.has.size))
  clear hv12 ho12 lw lh H11
  go_wp2_with fail
  refine (K3.out _ _ _ _ _ _ _ _ _ H12.out.1 H12.out.2).mono ?_
  rintro e13 w13 ⟨rfl, t13, hS13⟩
  have H13 := Lib.hid hS13
  clear hS13 H12
  go_wp2_with fail
  refine (KB2.out _ _ _ _ _ _ _ _ H13.out).mono ?_
  rintro e14 w14 ⟨o14, rfl, hb14, ho14⟩
  obtain ⟨bA, bcap, rfl, _, _, _⟩ := hb14
  have hS14 := H13.out.keep ho14
  have lw := wd_load hS14.wd
  rw [← EWV.out] at lw
  have lh := hd_load (blk_range hS14.x) LX.out
  have H14 := Lib.hid hS14
  clear hS14 ho14 H13
  go_wp2_with fail
  refine (HV28.out _ _ OX.out).mono ?_
  rintro e15 w15 ⟨v15, rfl, hv15, ho15⟩
  have H15 := Lib.hid (And.intro (H14.out.keep ho15) (own_lower hv15 H14.out.has.size))
  clear hv15 ho15 lw lh H14
  go_wp2_with fail
  refine (K4.out _ _ _ _ _ _ _ _ _ H15.out.1 H15.out.2).mono ?_
  rintro e16 w16 ⟨rfl, t16, hS16⟩
  have H16 := Lib.hid hS16
  clear hS16 H15
  go_wp2_with fail
  refine (KB4.out _ _ _ _ _ _ _ _ H16.out).mono ?_
  rintro e17 w17 ⟨o17, rfl, hb17, ho17⟩
  obtain ⟨cA, ccap, rfl, c1, c2, c3⟩ := hb17
  obtain ⟨g, o, rfl, hg, r1⟩ := c3 0 _ rfl
  obtain ⟨g', o', e', _, r2⟩ := c3 1 _ rfl
  cases e'
  have q1 := r1 0 _ rfl
  have q2 := r1 1 _ rfl
  have q3 := r2 0 _ rfl
  simp only [Nat.zero_mul, Nat.add_zero, Nat.one_mul] at q1 q2 q3
  have HF := Lib.hid (H16.out.keep ho17).has.only
  clear c3 r1 r2 ho17 H16
  go_wp2_with fail
  go_ret
  exact ⟨rfl, HF.out⟩
end Go.Proofs.YtgalfohobgjelaaGreatDoor
namespace Go.Proofs.YtgalfohobgjelaaGreatDoor
open Go.RowKit Go.Shelf
attribute [local go_sem ↓ high] evLoad_eq cliBd_eq
theorem votesL_small (L : List Bal) : SmallV (votesL L) := fun v hv => by
  unfold votesL at hv
  obtain ⟨b, _, rfl⟩ := List.mem_map.1 hv
  have h : ∃ n, (balV b).head = headI n := by
    unfold balV
    split <;> exact ⟨_, rfl⟩
  obtain ⟨n, hn⟩ := h
  rw [hn]
  exact ⟨(n % 8 / 2).toNat, by show n % 8 / 2 = _; omega, by omega⟩
theorem best_noone {L : List Vt} {o : Option Hd} (h : BestL [] L o) : o = none := by
  cases o with
  | none => rfl
  | some b =>
    have h2 : certB [] b L = true := h.2.1
    unfold certB at h2
    have h3 := of_decide_eq_true h2
    unfold votesFor offs offGo at h3
    simp [need] at h3
set_option maxRecDepth 100000 in
theorem cliZ_built : Tryz.prog.built 100 [] = some (cliC (cliNew 0 0 (.slice none 0 0) [])).toArray := by kernel_rfl
theorem cliZ_run (W : World) : (cliBd #[]).run Tryz.prog W = .ok (.agg (cliC (cliNew 0 0 (.slice none 0 0) [])).toArray) W := run_build (P := Tryz.prog) W 100 _ _ cliZ_built
def bd0 : Bd := ⟨0, ⟨#[]⟩, [], ⟨#[]⟩, []⟩
theorem bd0_ok : bd0.Ok := ⟨⟨by decide, by decide⟩, (fun _ h => by cases h), (fun _ h => by cases h), Nat.zero_le _, Nat.zero_le _, Nat.zero_le _, Nat.zero_le _⟩
/-- What lies there. -/
structure NiS (w : World) (E : Nat) (e : Ev) (sv : Value) (V : List Vt) (qv : Value) (Q : List Hs) (W : World) : Prop where
  ev : Blk W E tEv (evC e).toArray
  v : VtSl W sv V
  q : HaSl W qv Q
  low : LowS W.heap.size sv
  only : Only NoneOf w W
theorem NiS.keep {w : World} {E : Nat} {e : Ev} {sv : Value} {V : List Vt} {qv : Value} {Q : List Hs} {W W' : World} (h : NiS w E e sv V qv Q W) (ho : Only NoneOf W W') : NiS w E e sv V qv Q W' :=
  ⟨h.ev.only ho (fun e => e), h.v.only ho, h.q.only ho, fun a n cap e => Nat.lt_of_lt_of_le (h.low a n cap e) ho.size, h.only.trans ho⟩
theorem NiS.ld {w : World} {E : Nat} {e : Ev} {sv : Value} {V : List Vt} {qv : Value} {Q : List Hs} {W : World} (h : NiS w E e sv V qv Q W) (he : e.prev.length = 32) : (evLoad (.pointer (some ⟨E, 0, none⟩))).run Tryz.prog W = .ok (.agg (evC e).toArray) W :=
  ev_load_at (fun j v hj => by rw [Nat.zero_add, h.ev.cell]; simpa using hj) he
/-- .. with the client. -/
structure NiC (w : World) (E : Nat) (e : Ev) (sv : Value) (V : List Vt) (qv : Value) (Q : List Hs) (base C top : Nat) (s : Vw) (W : World) : Prop where
  ev : Blk W E tEv (evC e).toArray
  v : VtSl W sv V
  q : HaSl W qv Q
  has : Has w base C top s W
theorem NiC.keep {w : World} {E : Nat} {e : Ev} {sv : Value} {V : List Vt} {qv : Value} {Q : List Hs} {base C top : Nat} {s : Vw} {W W' : World} (h : NiC w E e sv V qv Q base C top s W) (ho : Only NoneOf W W') : NiC w E e sv V qv Q base C top s W' :=
  ⟨h.ev.only ho (fun e => e), h.v.only ho, h.q.only ho, h.has.keep ho⟩
theorem NiC.near {w : World} {E : Nat} {e : Ev} {sv : Value} {V : List Vt} {qv : Value} {Q : List Hs} {base C top top' : Nat} {s s' : Vw} {W W' : World} (h : NiC w E e sv V qv Q base C top s W) (hs : LowS base sv) (hq : LowS base qv) (hn : Near base W W') (hh : Has w base C top' s' W') : NiC w E e sv V qv Q base C top' s' W' :=
  ⟨hn.blk h.ev (by decide) (by decide) (by decide), hn.vts h.v hs, hn.has h.q hq, hh⟩
theorem NiC.ld {w : World} {E : Nat} {e : Ev} {sv : Value} {V : List Vt} {qv : Value} {Q : List Hs} {base C top : Nat} {s : Vw} {W : World} (h : NiC w E e sv V qv Q base C top s W) (he : e.prev.length = 32) : (evLoad (.pointer (some ⟨E, 0, none⟩))).run Tryz.prog W = .ok (.agg (evC e).toArray) W :=
  ev_load_at (fun j v hj => by rw [Nat.zero_add, h.ev.cell]; simpa using hj) he
set_option maxRecDepth 100000 in
set_option maxHeartbeats 4000000 in
theorem nil_law (e : Ev) (he : e.Ok) (hes : e.name.size + e.text.size ≤ 1048576) (Q : List Hs) (hqok : HsOk Q) (hQ : Q.length ≤ 100000) (qv : Value) (L : List Bal) (hok : BalsOk L) (sv : Value) (w : World) (hq : HaSl w qv Q) (hql : LowS w.heap.size qv) (hs : BalSl w sv L) (ht : Tab w) :
    Calls Tryz.prog 9 #[.agg (evC e).toArray, qv, sv] w fun e' w' => e' = .returned (.bool true) ∧ Only NoneOf w w' := by
  obtain ⟨E, eE⟩ : ∃ E, E = w.heap.size := ⟨_, rfl⟩
  have hS0 : Blk (w.alloc (.cells (evC e).toArray tEv)) E tEv (evC e).toArray ∧ Only NoneOf w (w.alloc (.cells (evC e).toArray tEv)) := ⟨by rw [eE]; exact Blk.new w _ _, (Only.refl _ _).alloc _⟩
  obtain ⟨V, eV⟩ : ∃ V, V = votesL L := ⟨_, rfl⟩
  have hVo : VtsOk V := by rw [eV]; exact votesL_ok L
  have hVs : SmallV V := by rw [eV]; exact votesL_small L
  have hVl : V.length ≤ 40 := by rw [eV]; exact votesL_len L
  have hsan : ∀ W, Only NoneOf w W → Calls Tryz.prog 11 #[] W fun e w' => e = .returned (.bool true) ∧ Only NoneOf W w' := fun W ho => sanity31 W (ht.none ho)
  have hvs : ∀ W, Only NoneOf w W → Calls Tryz.prog 34 #[sv] W fun e w' => ∃ rv, e = .returned rv ∧ VtOwn w' W.heap.size rv V.length V ∧ Only NoneOf W w' := fun W ho => by rw [eV]; exact rvotes_any L hok sv W (hs.only ho)
  have HS0 := Lib.hid hS0
  have EE := Lib.hid eE
  have HVO := Lib.hid (And.intro hVo (And.intro hVs hVl))
  have HSAN := Lib.hid hsan
  have HVS := Lib.hid hvs
  have HQ0 := Lib.hid (And.intro hq (And.intro hql (And.intro hqok hQ)))
  have HEO := Lib.hid (And.intro he hes)
  have HT := Lib.hid ht
  have hpl := he.prev
  have HPL := Lib.hid hpl
  clear hS0 eE hVo hVs hVl hsan hvs hq hql hqok hQ hes ht eV hs hok hpl he
  go_enter Tryz.func9, Tryz.ntmps9
  go_upto_region 1 with (fail)
  rw [← EE.out]
  refine wp_gen (fun Z => Blk Z E tEv (evC e).toArray ∧ Only NoneOf w Z) HS0.out ?_
  clear HS0
  rintro Z ⟨hE, hO⟩
  have HZ := Lib.hid (And.intro hE hO)
  clear hE hO
  go_wp2_with fail
  refine (HSAN.out _ HZ.out.2).mono ?_
  rintro e1 w1 ⟨rfl, ho1⟩
  have H1 := Lib.hid (And.intro (HZ.out.1.only ho1 (fun e => e)) (HZ.out.2.trans ho1))
  clear ho1 HZ
  go_wp2_with fail
  refine (HVS.out _ H1.out.2).mono ?_
  rintro e2 w2 ⟨rv, rfl, hrv, ho2⟩
  have hN2 : NiS w E e rv V qv Q w2 := ⟨H1.out.1.only ho2 (fun e => e), hrv.sl HVO.out.1, HQ0.out.1.only (H1.out.2.trans ho2), low_own hrv (Nat.le_refl _), H1.out.2.trans ho2⟩
  have H2 := Lib.hid hN2
  clear hN2 hrv ho2 H1
  have KSN : Hid (∀ W, Calls Tryz.prog 32 #[.pointer none, .agg #[.int .i64 0, .string ⟨#[]⟩, .slice none 0 0, .string ⟨#[]⟩, .slice none 0 0]] W fun e w' => e = .returned (.tuple #[]) ∧ Only NoneOf W w') := Lib.hid (fun W => sent_nil bd0 none none 0 0 W)
  go_wp2_with fail
  refine (KSN.out _).mono ?_
  rintro e3 w3 ⟨rfl, ho3⟩
  have H3 := Lib.hid (H2.out.keep ho3)
  clear ho3 H2
  go_wp2_with fail
  refine (head_nil _ _ _).mono ?_
  rintro e4 w4 ⟨rfl, ho4⟩
  have h4 := H3.out.keep ho4
  have le := h4.ld HPL.out
  have H4 := Lib.hid h4
  clear h4 ho4 H3
  go_wp2_with fail
  refine (receipt_nil e _ _ _).mono ?_
  rintro e5 w5 ⟨rfl, ho5⟩
  have H5 := Lib.hid (H4.out.keep ho5)
  clear ho5 le H4
  go_wp2_with fail
  refine (blames_nil _).mono ?_
  rintro e6 w6 ⟨rfl, ho6⟩
  have H6 := Lib.hid (H5.out.keep ho6)
  clear ho6 H5
  go_wp2_with fail
  refine (safe_nil _).mono ?_
  rintro e7 w7 ⟨rfl, ho7⟩
  have H7 := Lib.hid (H6.out.keep ho7)
  have hz := cliZ_run
  clear ho7 H6
  go_upto_region 8 with (fail)
  obtain ⟨base, ebase⟩ : ∃ n, n = w7.heap.size := ⟨_, rfl⟩
  have hC0 : ∃ C top, C = w7.heap.size ∧ NiC w E e rv V qv Q base C top ⟨0, [], false, ⟨#[]⟩, hd0, [], false⟩ (w7.alloc (.cells (cliC (cliNew 0 0 (.slice none 0 0) [])).toArray 100)) := by
    have ho : Only NoneOf w7 (w7.alloc (.cells (cliC (cliNew 0 0 (.slice none 0 0) [])).toArray 100)) := (Only.refl _ _).alloc _
    have hat : CliAt (w7.alloc (.cells (cliC (cliNew 0 0 (.slice none 0 0) [])).toArray 100)) base (cliNew w7.heap.size 0 (.slice none 0 0) []) :=
      cliNew_at ⟨rfl, .inl ⟨rfl, rfl⟩⟩ (Nat.le_of_eq ebase)
    have h := H7.out.keep ho
    exact ⟨_, _, rfl, h.ev, h.v, h.q, ⟨_, rfl, rfl, hat, rfl, by rw [ebase]; exact ho.size, Nat.le_refl _, h.only, by rw [ebase]; exact H7.out.only.size, fun k hk => (hat.foot_in hk).2⟩⟩
  obtain ⟨C, top, eC, hC⟩ := hC0
  have hls : LowS base rv := fun a n cap h => by rw [ebase]; exact H7.out.low a n cap h
  have hlq : LowS base qv := fun a n cap h => by rw [ebase]; exact Nat.lt_of_lt_of_le (HQ0.out.2.1 a n cap h) H7.out.only.size
  have r1 : ∀ W t, NiC w E e rv V qv Q base C t ⟨0, [], false, ⟨#[]⟩, hd0, [], false⟩ W → Calls Tryz.prog 30 #[.pointer (some ⟨C, 0, none⟩), .agg (evC e).toArray, qv, rv] W fun e' w' => e' = .returned (.int .i64 34) ∧ ∃ t', NiC w E e rv V qv Q base C t' ⟨0, [], false, ⟨#[]⟩, hd0, [], false⟩ w' := fun W t h => by
    refine (has_receipt w HT.out (s := ⟨0, [], false, ⟨#[]⟩, hd0, [], false⟩) (fun _ h => by cases h) (fun _ h => by cases h) (Nat.zero_le _) V HVO.out.1 HVO.out.2.1 (by have := HVO.out.2.2; omega) (Nat.zero_le _) rv e HEO.out.1 (by have := HEO.out.2; omega) (by have := HEO.out.2; omega) Q HQ0.out.2.2.1 qv W h.has h.v hls.offV h.q hlq.off).mono ?_
    rintro e' w' ⟨h1, hn⟩
    rcases h1 with ⟨h1, h2, h3⟩ | ⟨h1, _⟩
    · have h2' : e' = .returned (.int .i64 (rcPre [] 0 false ⟨#[]⟩ e)) := h2
      exact ⟨h2', _, h.near hls hlq hn h3⟩
    · have h1' : rcPre [] 0 false ⟨#[]⟩ e = 0 := h1
      exact absurd h1' (by show (34 : Int) ≠ 0; decide)
  have hd : ∀ W t, NiC w E e rv V qv Q base C t ⟨0, [], false, ⟨#[]⟩, hd0, [], false⟩ W → Calls Tryz.prog 19 #[.pointer (some ⟨C, 0, none⟩), rv, qv] W fun e' w' => e' = .returned (.int .i64 24) ∧ ∃ t' s, s.P = [] ∧ s.rc = false ∧ s.id = 0 ∧ s.votes.length ≤ 40 ∧ NiC w E e rv V qv Q base C t' s w' := fun W t h => by
    refine (has_head w HT.out (s := ⟨0, [], false, ⟨#[]⟩, hd0, [], false⟩) (fun _ h => by cases h) (Nat.zero_le _) hd0_small V HVO.out.1 HVO.out.2.1 (by have := HVO.out.2.2; omega) (Nat.zero_le _) rv Q HQ0.out.2.2.1 HQ0.out.2.2.2 qv W h.has h.v hls.offV h.q hlq.off).mono ?_
    rintro e' w' ⟨o, h1, h2, h3, hn⟩
    have := best_noone h1
    subst this
    refine ⟨h2, _, _, rfl, rfl, rfl, ?_, h.near hls hlq hn h3⟩
    show (takeV [] V).length ≤ 40
    have h9 := takeV_len [] V
    have := HVO.out.2.2
    simp only [List.length_nil] at h9
    omega
  have bl : ∀ W t s, s.P = [] → s.votes.length ≤ 40 → NiC w E e rv V qv Q base C t s W → Calls Tryz.prog 20 #[.pointer (some ⟨C, 0, none⟩)] W fun e' w' => ∃ A cap, e' = .returned (.slice A 0 cap) ∧ NiC w E e rv V qv Q base C t s w' := fun W t s h1 h2 h => by
    have hb := has_blames w HT.out (s := s) (by rw [h1]; exact fun _ h => by cases h) (by rw [h1]; exact Nat.zero_le _) (by omega) W h.has
    refine hb.mono ?_
    rintro e' w' ⟨ov, g1, ⟨A, cap, rfl, _⟩, g3⟩
    have e0 : (blL s.P s.votes).length = 0 := by rw [h1]; rfl
    rw [e0] at g1
    exact ⟨A, cap, g1, h.keep g3⟩
  have sf : ∀ W t s, s.P = [] → s.rc = false → s.votes.length ≤ 40 → NiC w E e rv V qv Q base C t s W → Calls Tryz.prog 22 #[.pointer (some ⟨C, 0, none⟩)] W fun e' w' => e' = .returned (.bool false) ∧ NiC w E e rv V qv Q base C t s w' := fun W t s h1 h3 h2 h => by
    have hb := has_safe w HT.out (s := s) (by rw [h1]; exact fun _ h => by cases h) (by rw [h1]; exact Nat.zero_le _) (by omega) W h.has
    refine hb.mono ?_
    rintro e' w' ⟨g1, g2⟩
    rw [h3] at g1
    exact ⟨g1, h.keep g2⟩
  have sn : ∀ W t s, s.P = [] → s.id = 0 → s.votes.length ≤ 40 → NiC w E e rv V qv Q base C t s W → Calls Tryz.prog 32 #[.pointer (some ⟨C, 0, none⟩), .agg #[.int .i64 0, .string ⟨#[]⟩, .slice none 0 0, .string ⟨#[]⟩, .slice none 0 0]] W fun e' w' => e' = .returned (.tuple #[]) ∧ ∃ t' s', s'.P = [] ∧ s'.id = 0 ∧ s'.sent = true ∧ s'.votes.length ≤ 40 ∧ NiC w E e rv V qv Q base C t' s' w' := fun W t s h1 h2 h3 h => by
    refine (has_sent w HT.out bd0 bd0_ok (qA := none) (pA := none) (qk := 0) (pk := 0) (.inl rfl) (.inl rfl) h.has).mono ?_
    rintro e' w' ⟨g1, g2, g3⟩
    exact ⟨g1, _, { s with sent := true, text := encT bd0, rc := false }, h1, h2, rfl, h3, h.near hls hlq g3 g2⟩
  have r2 : ∀ W t s, s.P = [] → s.id = 0 → s.sent = true → s.votes.length ≤ 40 → NiC w E e rv V qv Q base C t s W → Calls Tryz.prog 30 #[.pointer (some ⟨C, 0, none⟩), .agg (evC e).toArray, qv, rv] W fun e' w' => e' = .returned (.int .i64 35) ∧ Only NoneOf w w' := fun W t s h1 h2 h3 h4 h => by
    have hpre : rcPre s.P s.id s.sent s.text e = 35 := by
      rw [h1, h3]
      unfold rcPre
      rw [if_neg (by decide)]
      have hv : verL [] e = 35 := rfl
      rw [hv, if_pos (by decide)]
    refine (has_receipt w HT.out (s := s) (by rw [h1]; exact fun _ h => by cases h) (by rw [h1]; exact fun _ h => by cases h) (by rw [h1]; exact Nat.zero_le _) V HVO.out.1 HVO.out.2.1 (by have := HVO.out.2.2; omega) (by omega) rv e HEO.out.1 (by have := HEO.out.2; omega) (by have := HEO.out.2; omega) Q HQ0.out.2.2.1 qv W h.has h.v hls.offV h.q hlq.off).mono ?_
    rintro e' w' ⟨g1, hn⟩
    rcases g1 with ⟨_, g2, g3⟩ | ⟨g1, _⟩
    · rw [hpre] at g2
      exact ⟨g2, g3.only⟩
    · rw [hpre] at g1
      exact absurd g1 (by decide)
  have R1 := Lib.hid r1
  have HD := Lib.hid hd
  have BL := Lib.hid bl
  have SF := Lib.hid sf
  have SN := Lib.hid sn
  have R2 := Lib.hid r2
  have HC := Lib.hid hC
  have EC := Lib.hid eC
  clear r1 hd bl sf sn r2 hC eC ebase hz
  rw [← EC.out]
  refine wp_gen (fun Z => NiC w E e rv V qv Q base C top ⟨0, [], false, ⟨#[]⟩, hd0, [], false⟩ Z) HC.out ?_
  clear HC EC H7
  intro Y hY
  have le := hY.ld HPL.out
  have HY := Lib.hid hY
  clear hY
  go_wp2_with fail
  refine (R1.out _ _ HY.out).mono ?_
  rintro e8 w8 ⟨rfl, t8, h8⟩
  have H8 := Lib.hid h8
  clear h8 le HY
  go_wp2_with fail
  refine (HD.out _ _ H8.out).mono ?_
  rintro e9 w9 ⟨rfl, t9, s9, p9, r9, i9, v9, h9⟩
  have H9 := Lib.hid (And.intro p9 (And.intro r9 (And.intro i9 (And.intro v9 h9))))
  clear p9 r9 i9 v9 h9 H8
  go_wp2_with fail
  refine (BL.out _ _ _ H9.out.1 H9.out.2.2.2.1 H9.out.2.2.2.2).mono ?_
  rintro e10 w10 ⟨bA, bc, rfl, h10⟩
  have H10 := Lib.hid h10
  clear h10
  go_wp2_with fail
  refine (SF.out _ _ _ H9.out.1 H9.out.2.1 H9.out.2.2.2.1 H10.out).mono ?_
  rintro e11 w11 ⟨rfl, h11⟩
  have H11 := Lib.hid h11
  clear h11 H10
  go_wp2_with fail
  refine (SN.out _ _ _ H9.out.1 H9.out.2.2.1 H9.out.2.2.2.1 H11.out).mono ?_
  rintro e12 w12 ⟨rfl, t12, s12, p12, i12, n12, v12, h12⟩
  have le := h12.ld HPL.out
  have H12 := Lib.hid (And.intro p12 (And.intro i12 (And.intro n12 (And.intro v12 h12))))
  clear p12 i12 n12 v12 h12 H11 H9
  go_wp2_with fail
  refine (R2.out _ _ _ H12.out.1 H12.out.2.1 H12.out.2.2.1 H12.out.2.2.2.1 H12.out.2.2.2.2).mono ?_
  rintro e13 w13 ⟨rfl, ho13⟩
  have HF := Lib.hid ho13
  clear ho13
  go_wp2_with fail
  go_ret
  exact ⟨rfl, HF.out⟩
end Go.Proofs.YtgalfohobgjelaaGreatDoor
