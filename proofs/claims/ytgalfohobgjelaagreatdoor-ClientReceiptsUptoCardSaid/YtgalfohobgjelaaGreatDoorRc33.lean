/- What is proved here: several parts. the law on receipts. Conditions: the world's numbers are bytes; the table of powers of ten lies. · what the rows of this seat share: what the listed table gives, and a world that holds the listed tables. No conditions. -/
import Derived.Test.YtgalfohobgjelaaGreatDoorRc01
import Derived.Test.YtgalfohobgjelaaGreatDoorRc04
import Derived.Test.YtgalfohobgjelaaGreatDoorRc32
import Derived.Deep.DeepCutAuto
import Derived.Test.YtgalfohobgjelaaGreatDoorCards
import Derived.Test.YtgalfohobgjelaaGreatDoorTie
import Derived.Deep.DeepHandedRow
import Derived.Lib.LaidTab
import Derived.LaidSub
import Derived.ChangeMaps5
import Derived.OpenShut
namespace Go.Proofs.YtgalfohobgjelaaGreatDoor
open Go.RowKit Go.Shelf
attribute [local go_sem ↓ high] wdLoad_eq evLoad_eq evStore_eq
/-- The world and the events. -/
structure ReW (w : World) (B : Nat) (d : Wd) (kA : Option Addr) (kc : Nat) (W : World) : Prop where
  wd : Blk W B tWd (wdC d kA kc)
  only : Only NoneOf w W
theorem ReW.keep {w : World} {B : Nat} {d : Wd} {kA : Option Addr} {kc : Nat} {W W' : World} (h : ReW w B d kA kc W) (ho : Only NoneOf W W') : ReW w B d kA kc W' := ⟨h.wd.only ho (fun e => e), h.only.trans ho⟩
/-- What lies there. -/
structure ReS (w : World) (B E base C top : Nat) (d : Wd) (kA : Option Addr) (kc : Nat) (e : Ev) (gv : Value) (Q : List Hs) (rv : Value) (L : List Vt) (s : Vw) (W : World) : Prop where
  arg : ReW w B d kA kc W
  ev : Blk W E tEv (evC e).toArray
  g : HaSl W gv Q
  v : VtSl W rv L
  has : Has w base C top s W
section
variable {w : World} {B E base C top top' : Nat} {d : Wd} {kA : Option Addr} {kc : Nat} {e : Ev} {gv : Value} {Q : List Hs} {rv : Value} {L : List Vt} {s s' : Vw} {W W' : World}
theorem ReS.keep (h : ReS w B E base C top d kA kc e gv Q rv L s W) (ho : Only NoneOf W W') : ReS w B E base C top d kA kc e gv Q rv L s W' :=
  ⟨h.arg.keep ho, h.ev.only ho (fun e => e), h.g.only ho, h.v.only ho, h.has.keep ho⟩
theorem ReS.near (h : ReS w B E base C top d kA kc e gv Q rv L s W) (hg : LowS base gv) (hv : LowS base rv) (hn : Near base W W') (hh : Has w base C top' s' W') : ReS w B E base C top' d kA kc e gv Q rv L s' W' :=
  ⟨⟨hn.blk h.arg.wd (by decide) (by decide) (by decide), hh.only⟩, hn.blk h.ev (by decide) (by decide) (by decide), hn.has h.g hg, hn.vts h.v hv, hh⟩
theorem ReS.ld (h : ReS w B E base C top d kA kc e gv Q rv L s W) (he : e.prev.length = 32) : (evLoad (.pointer (some ⟨E, 0, none⟩))).run Tryz.prog W = .ok (.agg (evC e).toArray) W :=
  ev_load_at (fun j v hj => by rw [Nat.zero_add, h.ev.cell]; simpa using hj) he
end
/-- What lies there ahead of the client. -/
structure ReT (w : World) (B E : Nat) (d : Wd) (kA : Option Addr) (kc : Nat) (e : Ev) (lA : Option Addr) (ln lc : Nat) (gv : Value) (Q : List Hs) (W : World) : Prop where
  arg : ReW w B d kA kc W
  ev : Blk W E tEv (evC e).toArray
  l : StSl W (.slice lA ln lc) (lvW d false)
  g : HaSl W gv Q
  low : LowS W.heap.size gv
theorem ReT.keep {w : World} {B E : Nat} {d : Wd} {kA : Option Addr} {kc : Nat} {e : Ev} {lA : Option Addr} {ln lc : Nat} {gv : Value} {Q : List Hs} {W W' : World} (h : ReT w B E d kA kc e lA ln lc gv Q W) (ho : Only NoneOf W W') : ReT w B E d kA kc e lA ln lc gv Q W' :=
  ⟨h.arg.keep ho, h.ev.only ho (fun e => e), h.l.only ho, h.g.only ho, fun a n cap e => Nat.lt_of_lt_of_le (h.low a n cap e) ho.size⟩
theorem ev_store_new (W : World) {e : Ev} (hp : e.prev.length = 32) : (evStore (.pointer (some ⟨W.heap.size, 0, none⟩)) (.agg (evC e).toArray)).run Tryz.prog (W.alloc (.cells zeroEv 79)) = .ok () ((W.alloc (.cells (evC blank0).toArray tEv)).setCells W.heap.size 0 (evC e)) := ev_store (e := e) (cs := evC blank0) (Blk.new W tEv _) rfl hp
/-- The view of the client that has sent a bid. -/
noncomputable def reV (d : Wd) (n : Int) (M : List Vt) (r : Bool) : Vw := ⟨60, setW d, true, encT (bidW n), hd0, M, r⟩
theorem same_blames {P : List Pers} {M : List Vt} {h : Hd} (hM : ∀ v ∈ M, v.head = h) : blL P M = [] := blL_nil (fun u hu v hv _ => by rw [hM u hu, hM v hv])
/-- A receipt is shown. -/
theorem re_call (w : World) (ht : Tab w) {B E base C top : Nat} {d : Wd} {kA : Option Addr} {kc : Nat} {e : Ev} (heo : e.Ok ∧ e.name.size ≤ 100 ∧ e.text.size ≤ 100) {gv : Value} {Q : List Hs} (hqok : HsOk Q) {rv : Value} {L : List Vt} {s : Vw} {W : World} (hg : LowS base gv) (hv : LowS base rv) (hZ : ReS w B E base C top d kA kc e gv Q rv L s W) (hP : s.P = setW d) (hn : s.votes.length ≤ 1000) (L' : List Vt) (hok : VtsOk L') (hsv : SmallV L') (hL : L'.length ≤ 1000) (sv : Value) (hs : VtSl W sv L') (hsa : OffV base top W sv) :
    Calls Tryz.prog 30 #[.pointer (some ⟨C, 0, none⟩), .agg (evC e).toArray, gv, sv] W fun e' w' => (rcPre s.P s.id s.sent s.text e ≠ 0 ∧ e' = .returned (.int .i64 (rcPre s.P s.id s.sent s.text e)) ∧ ∃ t, ReS w B E base C t d kA kc e gv Q rv L s w') ∨ (rcPre s.P s.id s.sent s.text e = 0 ∧ ∃ o, BestL s.P L' o ∧ e' = .returned (.int .i64 (rcPost o e Q)) ∧ ∃ t, ReS w B E base C t d kA kc e gv Q rv L { s with votes := takeV s.votes L', rc := s.rc || decide (rcPost o e Q = 0) } w') := by
  refine (has_receipt w ht (by rw [hP]; exact setW_ok d) (by rw [hP]; exact setW_pub d) (by rw [hP]; exact setW_len d) L' hok hsv hL (by omega) sv e heo.1 (by omega) (by omega) Q hqok gv W hZ.has hs hsa hZ.g hg.off).mono ?_
  rintro e' w' ⟨h, hnr⟩
  rcases h with ⟨h1, h2, h3⟩ | ⟨h1, o, h2, h3, h4⟩
  · exact .inl ⟨h1, h2, _, hZ.near hg hv hnr h3⟩
  · exact .inr ⟨h1, o, h2, h3, _, hZ.near hg hv hnr h4⟩
set_option maxRecDepth 100000 in
set_option maxHeartbeats 4000000 in
theorem receipts_law (d : Wd) (hd : d.Ok) (kA : Option Addr) (kc : Nat) (nn : Nat) (hnn : nn < 256) (sz : Nat) (hsz : sz < 256) (w : World) (hkd : KdAt w kA d.kinds) (hkl : d.kinds.length ≤ 1000000000) (ht : Tab w) :
    Calls Tryz.prog 8 #[.agg (wdC d kA kc), .int .u8 (nn : Int), .int .u8 (sz : Int)] w fun e w' => e = .returned (.bool true) ∧ Only NoneOf w w' := by
  obtain ⟨B, eB⟩ : ∃ B, B = w.heap.size := ⟨_, rfl⟩
  have hA0 : ReW w B d kA kc (w.alloc (.cells (wdC d kA kc) tWd)) := ⟨by rw [eB]; exact Blk.new w _ _, (Only.refl _ _).alloc _⟩
  obtain ⟨WV, eWV⟩ : ∃ v : Array Value, v = wdC d kA kc := ⟨_, rfl⟩
  obtain ⟨ln, eln⟩ : ∃ n, n = (lvW d false).length := ⟨_, rfl⟩
  have hln : ln ≤ 12 := by rw [eln]; exact lvW_le d false
  have eev : (evsW d false).length = ln := by rw [eln, lvW_len]
  have hsan : ∀ W, Only NoneOf w W → Calls Tryz.prog 11 #[] W fun e w' => e = .returned (.bool true) ∧ Only NoneOf W w' := fun W ho => sanity31 W (ht.none ho)
  have hevs : ∀ W, ReW w B d kA kc W → Calls Tryz.prog 13 #[.agg WV, .bool false] W fun e' w' => ∃ A cap, e' = .returned (.slice A ln cap) ∧ EvSl w' (.slice A ln cap) (evsW d false) ∧ Only NoneOf W w' := fun W h => by
    rw [eWV]
    exact (wevents_any d hd false kA kc W (hkd.none_ h.only) hkl (ht.none h.only)).mono (fun e' w' ⟨rv, h1, h2, h3⟩ => by
      have h4 := h2.sl (fun e he => (evsW_ok he).1.prev)
      obtain ⟨A, cap, rfl, h5⟩ := id h4
      rw [eev] at h1 h4
      exact ⟨A, cap, h1, h4, h3⟩)
  have hlvs : ∀ W rv, EvSl W rv (evsW d false) → Calls Tryz.prog 12 #[rv] W fun e' w' => ∃ A cap, e' = .returned (.slice A ln cap) ∧ StSl w' (.slice A ln cap) (lvW d false) ∧ ln ≤ cap ∧ Only NoneOf W w' := fun W rv h =>
    (rleaves_any (evsW d false) (fun e he => evsW_ok he) (by have := evsW_le d false; omega) rv W h).mono (fun e' w' ⟨lv, h1, h2, h3⟩ => by
      rw [eev] at h2
      obtain ⟨A, cap, rfl, h4, h5⟩ := own_form' h2
      have h6 : TxOwn w' W.heap.size (.slice A ln cap) (lvW d false).length (lvW d false) := by rw [← eln]; exact h2
      exact ⟨A, cap, h1, h6.sl, h4, h3⟩)
  have hset : ∀ W, Calls Tryz.prog 18 #[.agg WV] W fun e' w' => ∃ pv, e' = .returned (setV pv) ∧ PerSl w' pv (setW d) ∧ Only NoneOf W w' := fun W => by rw [eWV]; exact wsetup_any d hd kA kc W
  have hnew : ∀ W pv, Only NoneOf w W → PerSl W pv (setW d) → Calls Tryz.prog 17 #[.int .i64 60, setV pv] W fun e w' => ∃ C, e = .returned (.pointer (some ⟨C, 0, none⟩)) ∧ Has w W.heap.size C w'.heap.size ⟨60, setW d, false, ⟨#[]⟩, hd0, [], false⟩ w' ∧ Only NoneOf W w' := fun W pv ho hp => has_new w 60 (setW d) (setW_len _) pv W ho hp
  have HA0 := Lib.hid hA0
  have EB := Lib.hid eB
  have EWV := Lib.hid eWV
  have ELN := Lib.hid eln
  have HSAN := Lib.hid hsan
  have HEVS := Lib.hid hevs
  have HLVS := Lib.hid hlvs
  have HSET := Lib.hid hset
  have HNEW := Lib.hid hnew
  have HEE := Lib.hid eev
  have HKD := Lib.hid hkd
  have HT := Lib.hid ht
  clear hA0 eB eWV eln hsan hevs hlvs hset hnew hkd ht eev
  go_enter Tryz.func8, Tryz.ntmps8
  go_upto_region 1 with (fail)
  rw [← EB.out]
  refine wp_gen (ReW w B d kA kc) HA0.out ?_
  clear HA0
  intro Z hZ
  have HZ := Lib.hid hZ
  clear hZ
  go_wp2_with fail
  refine (HSAN.out _ HZ.out.only).mono ?_
  rintro e1 w1 ⟨rfl, ho1⟩
  have h1 := HZ.out.keep ho1
  have l1 := wd_load h1.wd
  rw [← EWV.out] at l1
  have H1 := Lib.hid h1
  clear h1 ho1 HZ
  go_wp2_with fail
  refine (HEVS.out _ H1.out).mono ?_
  rintro e2 w2 ⟨eA, ec, rfl, he2, ho2⟩
  have H2 := Lib.hid (And.intro he2 (H1.out.keep ho2))
  clear he2 ho2 l1 H1
  go_wp2_with fail
  refine (HLVS.out _ _ H2.out.1).mono ?_
  rintro e3 w3 ⟨lA, lc, rfl, hl3, hlc, ho3⟩
  have H3 := Lib.hid (And.intro (H2.out.1.only ho3) (And.intro hl3 (H2.out.2.keep ho3)))
  clear hl3 ho3 H2
  by_cases hz : ln = 0
  · have d0 : ((ln : Int) == 0) = true := by simp [hz]
    have HF := Lib.hid H3.out.2.2.only
    clear hz
    go_wp2_with fail
    go_ret
    exact ⟨rfl, HF.out⟩
  · have d0 : ((ln : Int) == 0) = false := by simp [hz]
    obtain ⟨k, ek⟩ : ∃ k : Nat, k = nn % ln := ⟨_, rfl⟩
    have hk : k < ln := by rw [ek]; exact Nat.mod_lt _ (by omega)
    have kt : (nn : Int).tmod (ln : Int) = (k : Int) := by rw [Int.tmod_eq_emod_of_nonneg (by omega), ek]; rfl
    have kw : IntKind.i64.wrap (nn : Int) = (nn : Int) := IntWalk.i64_in _ (by omega)
    have kk : IntKind.i64.wrap (k : Int) = (k : Int) := IntWalk.i64_in _ (by omega)
    have e0 : ¬ (ln : Int) = 0 := by omega
    obtain ⟨q, eq⟩ : ∃ q : Nat, q = sz % (ln - k) := ⟨_, rfl⟩
    have hq : q < ln - k := by rw [eq]; exact Nat.mod_lt _ (by omega)
    have qt : (sz : Int).tmod ((ln : Int) - (k : Int)) = (q : Int) := by
      rw [Int.tmod_eq_emod_of_nonneg (by omega), eq, Int.natCast_emod, Int.natCast_sub (by omega)]
    have qw : IntKind.i64.wrap (sz : Int) = (sz : Int) := IntWalk.i64_in _ (by omega)
    have qs : IntKind.i64.wrap ((ln : Int) - (k : Int)) = (ln : Int) - (k : Int) := IntWalk.i64_in _ (by omega)
    have qq : IntKind.i64.wrap (q : Int) = (q : Int) := IntWalk.i64_in _ (by omega)
    have q0 : ¬ (ln : Int) - (k : Int) = 0 := by omega
    obtain ⟨many, em⟩ : ∃ m : Nat, m = k + 1 + q := ⟨_, rfl⟩
    have hmk : k < many := by omega
    have hml : many ≤ ln := by omega
    have k1 : IntKind.i64.wrap ((k : Int) + 1) = (k : Int) + 1 := IntWalk.i64_in _ (by omega)
    have k2 : IntKind.i64.wrap ((k : Int) + 1 + (q : Int)) = (many : Int) := by rw [IntWalk.i64_in _ (by omega)]; omega
    have k3 : (k : Int) + 1 + (q : Int) = (many : Int) := by omega
    obtain ⟨e, he⟩ : ∃ e, (evsW d false)[k]? = some e := ⟨_, List.getElem?_eq_getElem (by rw [HEE.out]; exact hk)⟩
    obtain ⟨prev, x, hpl, hx, hk12, hee⟩ := evsW_get he
    have heo := (evsW_ok (List.mem_of_getElem? he))
    obtain ⟨gE, oE, hgE, hlE, hrE⟩ : ∃ g o, eA = some ⟨g, o, none⟩ ∧ g < w3.heap.size ∧ w3.rangeAt g (o + k * 46) (evC e) := by
      obtain ⟨A, cap, e9, _, _, h9⟩ := H3.out.1
      cases e9
      exact h9 k e he
    subst hgE
    have hle := ev_load_at hrE heo.1.prev
    have hst := ev_store_new w3 heo.1.prev
    unfold zeroEv at hst
    have ik : (k : Int) < (ln : Int) := by omega
    have ik0 : (0 : Int) ≤ (k : Int) := by omega
    obtain ⟨E, eE⟩ : ∃ E, E = w3.heap.size := ⟨_, rfl⟩
    have h5 : Blk ((w3.alloc (.cells (evC blank0).toArray tEv)).setCells w3.heap.size 0 (evC e)) E tEv (evC e).toArray ∧ StSl ((w3.alloc (.cells (evC blank0).toArray tEv)).setCells w3.heap.size 0 (evC e)) (.slice lA ln lc) (lvW d false) ∧ ReW w B d kA kc ((w3.alloc (.cells (evC blank0).toArray tEv)).setCells w3.heap.size 0 (evC e)) := by
      have ho : Only NoneOf w3 ((w3.alloc (.cells (evC blank0).toArray tEv)).setCells w3.heap.size 0 (evC e)) := only_setCells ((Only.refl _ _).alloc _) w3.heap.size 0 (.inr (Nat.le_refl _)) _
      exact ⟨by rw [eE]; exact filled_whole (ds := evC e) (Blk.new w3 tEv (evC blank0).toArray) (by simp [evC_len heo.1.prev, evC_len (e := blank0) rfl]), H3.out.2.1.only ho, H3.out.2.2.keep ho⟩
    have H5 := Lib.hid h5
    have EE := Lib.hid eE
    have EM := Lib.hid em
    have HE := Lib.hid he
    have HEO := Lib.hid heo
    have HEX := Lib.hid (And.intro hpl (And.intro hx hee))
    clear h5 eE em he heo hpl hx hee hlE hrE ek eq H3
    go_upto_region 8 with (fail)
    rw [← EE.out]
    rw [← EE.out] at H5
    refine wp_gen (fun Z => Blk Z E tEv (evC e).toArray ∧ StSl Z (.slice lA ln lc) (lvW d false) ∧ ReW w B d kA kc Z) H5.out ?_
    clear H5 EE hle hst
    rintro Y ⟨hYe, hYl, hYa⟩
    obtain ⟨Q, eQ⟩ : ∃ q, q = (pathF ((lvW d false).take many).length (txs ((lvW d false).take many)) k).reverse := ⟨_, rfl⟩
    have hqok : HsOk Q := by rw [eQ]; exact fun h hh => pathF_ok _ _ _ h (List.mem_reverse.1 hh)
    have hmc : (many : Int) ≤ (lc : Int) := by omega
    have hpa : ∀ W, StSl W (.slice lA ln lc) (lvW d false) → Calls Tryz.prog 29 #[.slice lA many lc, .int .i64 (k : Int)] W fun e w' => ∃ gv, e = .returned (.tuple #[gv, .bool true]) ∧ HaOwn w' W.heap.size gv Q.length Q ∧ Only NoneOf W w' := fun W h => by
      have h1 := h.first (k := many) (by rw [← ELN.out]; exact hml)
      rw [eQ, List.length_reverse]
      exact rpath_any _ ((lvW d false).take many) k (Nat.le_refl _) (by rw [List.length_take]; omega) (short_take (lvW_short d false) many) (by rw [List.length_take, ← ELN.out]; omega) _ W h1
    have HY := Lib.hid (And.intro hYe (And.intro hYl hYa))
    have HPA := Lib.hid hpa
    have EQ := Lib.hid eQ
    have HQO := Lib.hid hqok
    clear hYe hYl hYa hpa eQ hqok
    go_wp2_with fail
    refine (HPA.out _ HY.out.2.1).mono ?_
    rintro e6 w6 ⟨gv, rfl, hgv, ho6⟩
    obtain ⟨hh, ehh⟩ : ∃ h, h = hdOf ((lvW d false).take many) := ⟨_, rfl⟩
    have hok : hh.Ok := by rw [ehh]; exact hdOf_ok (by rw [List.length_take]; omega)
    have hT0 : ReT w B E d kA kc e lA ln lc gv Q w6.drew := by
      have ho := ho6.trans (Only.refl NoneOf _).drew
      exact ⟨HY.out.2.2.keep ho, HY.out.1.only ho (fun e => e), HY.out.2.1.only ho, (hgv.sl HQO.out).only (Only.refl NoneOf _).drew, low_own hgv (Nat.le_refl _)⟩
    have hS0 : ReW w B d kA kc w6.drew := hT0.arg
    have hld : ∀ W, ReW w B d kA kc W → (wdLoad (.pointer (some ⟨B, 0, none⟩))).run Tryz.prog W = .ok (.agg WV) W := fun W h => by rw [EWV.out]; exact wd_load h.wd
    have k5 : ∀ W, ReT w B E d kA kc e lA ln lc gv Q W → Calls Tryz.prog 15 #[.slice lA many lc] W fun e' w' => e' = .returned (.agg (hdC hh).toArray) ∧ ReW w B d kA kc w' ∧ ReT w B E d kA kc e lA ln lc gv Q w' := fun W h => by
      have h1 := h.l.first (k := many) (by rw [← ELN.out]; exact hml)
      rw [ehh]
      exact (rheadof_any _ (by rw [List.length_take]; omega) (short_take (lvW_short d false) many) _ W h1).mono (fun e w' ⟨g1, g2⟩ => ⟨g1, (h.keep g2).arg, h.keep g2⟩)
    have k6 : ∀ W, ReT w B E d kA kc e lA ln lc gv Q W → Calls Tryz.prog 14 #[.agg WV, .agg (hdC hh).toArray, .int .u16 4095, .int .u16 0] W fun e' w' => ∃ rv, e' = .returned rv ∧ VtOwn w' W.heap.size rv (votesW d hh 4095 0).length (votesW d hh 4095 0) ∧ ReW w B d kA kc w' ∧ ReT w B E d kA kc e lA ln lc gv Q w' := fun W h => by
      rw [EWV.out]
      exact (wvotes_any d hd hh hok 4095 0 (by omega) (by omega) kA kc W).mono (fun e w' ⟨rv, g1, g2, g3⟩ => ⟨rv, g1, g2, (h.keep g3).arg, h.keep g3⟩)
    have K5 := Lib.hid k5
    have K6 := Lib.hid k6
    have EHH := Lib.hid ehh
    have HOK := Lib.hid hok
    clear k5 k6 ehh hok hgv ho6 HPA HY
    go_upto_region 10 with (fail)
    go_cut [15] (fun p wx => ∃ rv b, rv = p ∧ VtOwn wx b rv (votesW d hh 4095 0).length (votesW d hh 4095 0) ∧ ReT w B E d kA kc e lA ln lc gv Q wx)
    case first =>
      go_region_held3 (fun W => ReW w B d kA kc W) (first | (with_reducible assumption))
        (first
          | (go_at_call 15; (with_reducible refine (K5.out _ (by assumption)).mono ?_); rintro e7 w7 ⟨rfl, hS7, hT7⟩)
          | (go_at_call 14; (with_reducible refine (K6.out _ (by assumption)).mono ?_); rintro e8 w8 ⟨rv8, rfl, hv8, hS8, hT8⟩))
      all_goals
        go_wp2_with fail
        go_meet
        case rel => exact ⟨_, _, rfl, by with_reducible assumption, by with_reducible assumption⟩
    case rest =>
    obtain ⟨rv, b9, rfl, hrv, hT9⟩ := hcut
    obtain ⟨L, eL⟩ : ∃ L, L = votesW d hh 4095 0 := ⟨_, rfl⟩
    rw [← eL] at hrv
    have hLok : VtsOk L := by rw [eL]; exact votesW_ok d HOK.out _ _
    have hLs : SmallV L := by rw [eL, EHH.out]; exact votesW_small d (hdOf_small (by rw [List.length_take]; omega)) _ _
    have hLl : L.length ≤ 7 := by rw [eL]; exact votesW_len _ _ _ _
    have hLh : ∀ v ∈ L, v.head = hh := fun v hv => by rw [eL] at hv; exact votesW_head hv
    have hLb : ∀ o, BestL (setW d) L o → o = some hh := fun o ho => by rw [eL] at ho; exact best_allW d hh ho
    go_upto_region 11 with (fail)
    refine wp_gen (fun V => VtSl V rv L ∧ LowS V.heap.size rv ∧ ReT w B E d kA kc e lA ln lc gv Q V) ⟨hrv.sl hLok, low_own hrv (Nat.le_refl _), hT9⟩ ?_
    rintro V ⟨hVv, hVl, hVt⟩
    have l1 := wd_load hVt.arg.wd
    rw [← EWV.out] at l1
    have HV := Lib.hid (And.intro hVv (And.intro hVl hVt))
    have HLO := Lib.hid (And.intro hLok (And.intro hLs (And.intro hLl (And.intro hLh hLb))))
    clear hVv hVl hVt hrv hT9 K5 K6 hLok hLs hLl hLh hLb eL hld hS0 hT0
    go_wp2_with fail
    refine (HSET.out _).mono ?_
    rintro e9 w9 ⟨pv, rfl, hpv, ho9⟩
    have H9 := Lib.hid (And.intro hpv ho9)
    clear hpv ho9 l1
    go_wp2_with fail
    refine (HNEW.out _ _ (HV.out.2.2.arg.only.trans H9.out.2) H9.out.1).mono ?_
    rintro e10 w10 ⟨C, rfl, hh10, ho10⟩
    obtain ⟨base, ebase⟩ : ∃ n, n = w9.heap.size := ⟨_, rfl⟩
    obtain ⟨t10, et10⟩ : ∃ n, n = w10.heap.size := ⟨_, rfl⟩
    rw [← ebase, ← et10] at hh10
    have hoo := H9.out.2.trans ho10
    have hlr : LowS base rv := fun a n cap h => by have h1 := HV.out.2.1 a n cap h; have h2 := H9.out.2.size; omega
    have hlg : LowS base gv := fun a n cap h => by have h1 := HV.out.2.2.low a n cap h; have h2 := H9.out.2.size; omega
    have hS10 : ReS w B E base C t10 d kA kc e gv Q rv L ⟨60, setW d, false, ⟨#[]⟩, hd0, [], false⟩ w10 :=
      ⟨HV.out.2.2.arg.keep hoo, HV.out.2.2.ev.only hoo (fun e => e), HV.out.2.2.g.only hoo, HV.out.1.only hoo, hh10⟩
    have HLR := Lib.hid hlr
    have HLG := Lib.hid hlg
    have HS10 := Lib.hid hS10
    have le := hS10.ld HEO.out.1.prev
    clear hS10 hh10 ho10 hoo hlr hlg ebase et10 H9 HV HNEW HSET HLVS HEVS HSAN
    obtain ⟨prev, hpl, hx, hee⟩ : ∃ prev : Hs, prev.length = 32 ∧ d.kinds[k]? = some x ∧ e = evAt d false k prev x.toNat := ⟨prev, HEX.out.1, HEX.out.2.1, HEX.out.2.2⟩
    obtain ⟨n, en⟩ : ∃ n : Int, n = ((x.toNat / 4 : Nat) : Int) := ⟨_, rfl⟩
    have r0 : ∀ W t, ReS w B E base C t d kA kc e gv Q rv L ⟨60, setW d, false, ⟨#[]⟩, hd0, [], false⟩ W → Calls Tryz.prog 30 #[.pointer (some ⟨C, 0, none⟩), .agg (evC e).toArray, gv, rv] W fun e' w' => e' = .returned (.int .i64 34) ∧ ∃ t', ReS w B E base C t' d kA kc e gv Q rv L ⟨60, setW d, false, ⟨#[]⟩, hd0, [], false⟩ w' := fun W t h => by
      refine (re_call w HT.out HEO.out HQO.out HLG.out HLR.out h rfl (Nat.zero_le _) L HLO.out.1 HLO.out.2.1 (by have := HLO.out.2.2.1; omega) rv h.v HLR.out.offV).mono ?_
      rintro e' w' (⟨h1, h2, h3⟩ | ⟨h1, _⟩)
      · rw [rc_unsent] at h2
        exact ⟨h2, h3⟩
      · rw [rc_unsent] at h1
        exact absurd h1 (by decide)
    have sn : ∀ W t s (m : Int) A, ReS w B E base C t d kA kc e gv Q rv L s W → IntSl W A [4] → Calls Tryz.prog 32 #[.pointer (some ⟨C, 0, none⟩), .agg (bdCells (bidW m) A none 1 0)] W fun e' w' => e' = .returned (.tuple #[]) ∧ ∃ t', ReS w B E base C t' d kA kc e gv Q rv L { s with sent := true, text := encT (bidW m), rc := false } w' := fun W t s m A h hA => by
      refine (has_sent w HT.out (bidW m) (bidW_ok m) (qk := 1) (pk := 0) hA (.inl rfl) h.has).mono ?_
      rintro e' w' ⟨h1, h2, h3⟩
      exact ⟨h1, _, h.near HLG.out HLR.out h3 h2⟩
    have sf : ∀ W t m M r, (M : List Vt).length ≤ 1000 → (∀ v ∈ M, v.head = hh) → ReS w B E base C t d kA kc e gv Q rv L (reV d m M r) W → Calls Tryz.prog 22 #[.pointer (some ⟨C, 0, none⟩)] W fun e' w' => e' = .returned (.bool r) ∧ ReS w B E base C t d kA kc e gv Q rv L (reV d m M r) w' := fun W t m M r hM hMh h => by
      refine (has_safe w HT.out (setW_ok d) (setW_len d) (by show M.length ≤ _; omega) W h.has).mono ?_
      rintro e' w' ⟨h1, h2⟩
      refine ⟨?_, h.keep h2⟩
      rw [h1]
      show Ending.returned (.bool (r && (blL (setW d) M).isEmpty)) = _
      rw [same_blames hMh]
      simp
    have r1f : ∀ W t m M r sv, ownEv x.toNat = false → (M : List Vt).length ≤ 1000 → (sv = rv ∨ sv = .slice none 0 0) → ReS w B E base C t d kA kc e gv Q rv L (reV d m M r) W → Calls Tryz.prog 30 #[.pointer (some ⟨C, 0, none⟩), .agg (evC e).toArray, gv, sv] W fun e' w' => e' = .returned (.int .i64 35) ∧ ∃ t', ReS w B E base C t' d kA kc e gv Q rv L (reV d m M r) w' := fun W t m M r sv hown hM hsv h => by
      have hpre : rcPre (setW d) 60 true (encT (bidW m)) e = 35 := by rw [hee]; exact rc_other d false k prev x.toNat _ hown
      have one : ∀ L', VtsOk L' → SmallV L' → L'.length ≤ 1000 → VtSl W sv L' → OffV base t W sv → Calls Tryz.prog 30 #[.pointer (some ⟨C, 0, none⟩), .agg (evC e).toArray, gv, sv] W fun e' w' => e' = .returned (.int .i64 35) ∧ ∃ t', ReS w B E base C t' d kA kc e gv Q rv L (reV d m M r) w' := fun L' a1 a2 a3 a4 a5 => by
        refine (re_call w HT.out HEO.out HQO.out HLG.out HLR.out h rfl hM L' a1 a2 a3 sv a4 a5).mono ?_
        rintro e' w' (⟨h1, h2, h3⟩ | ⟨h1, _⟩)
        · have h2' : e' = .returned (.int .i64 (rcPre (setW d) 60 true (encT (bidW m)) e)) := h2
          rw [hpre] at h2'
          exact ⟨h2', h3⟩
        · have h1' : rcPre (setW d) 60 true (encT (bidW m)) e = 0 := h1
          rw [hpre] at h1'
          exact absurd h1' (by decide)
      rcases hsv with rfl | rfl
      · exact one L HLO.out.1 HLO.out.2.1 (by have := HLO.out.2.2.1; omega) h.v HLR.out.offV
      · exact one [] (fun _ h => by cases h) (fun _ h => by cases h) (Nat.zero_le _) ⟨none, 0, rfl, Nat.le_refl _, by omega, fun i p hp => by simp at hp⟩ (offV_top (vtOwn_nil W t) (Nat.le_refl _))
    have hpt : ∀ m, ownEv x.toNat = true → rcPre (setW d) 60 true (encT (bidW m)) e = if encT (bidW m) = encT (bidW n) then 0 else 20 := fun m hown => by rw [hee, en]; exact rc_own d false k prev x.toNat _ hown
    have r1t : ∀ W t, ownEv x.toNat = true → ReS w B E base C t d kA kc e gv Q rv L (reV d n [] false) W → Calls Tryz.prog 30 #[.pointer (some ⟨C, 0, none⟩), .agg (evC e).toArray, gv, rv] W fun e' w' => e' = .returned (.int .i64 0) ∧ ∃ t', ReS w B E base C t' d kA kc e gv Q rv L (reV d n (takeV [] L) true) w' := fun W t hown h => by
      have hpre := hpt n hown
      rw [if_pos rfl] at hpre
      refine (re_call w HT.out HEO.out HQO.out HLG.out HLR.out h rfl (Nat.zero_le _) L HLO.out.1 HLO.out.2.1 (by have := HLO.out.2.2.1; omega) rv h.v HLR.out.offV).mono ?_
      rintro e' w' (⟨h1, h2, h3⟩ | ⟨h1, o, h2, h3, h4⟩)
      · exact absurd hpre h1
      · have ho := HLO.out.2.2.2.2 o h2
        have hp : rcPost o e Q = 0 := by
          rw [ho, EHH.out, EQ.out]
          exact rc_path HE.out (by rw [hee]; rfl) hmk (by rw [← ELN.out]; exact hml)
        rw [hp] at h3 h4
        exact ⟨h3, h4⟩
    have r2t : ∀ W t, ownEv x.toNat = true → ReS w B E base C t d kA kc e gv Q rv L (reV d n (takeV [] L) true) W → Calls Tryz.prog 30 #[.pointer (some ⟨C, 0, none⟩), .agg (evC e).toArray, gv, .slice none 0 0] W fun e' w' => e' = .returned (.int .i64 24) ∧ ∃ t', ReS w B E base C t' d kA kc e gv Q rv L (reV d n (takeV [] L) true) w' := fun W t hown h => by
      have hpre := hpt n hown
      rw [if_pos rfl] at hpre
      have hl9 := takeV_len [] L
      have hl7 := HLO.out.2.2.1
      simp only [List.length_nil] at hl9
      refine (re_call w HT.out HEO.out HQO.out HLG.out HLR.out h rfl (by show (takeV [] L).length ≤ _; omega) [] (fun _ h => by cases h) (fun _ h => by cases h) (Nat.zero_le _) _ ⟨none, 0, rfl, Nat.le_refl _, by omega, fun i p hp => by simp at hp⟩ (offV_top (vtOwn_nil W t) (Nat.le_refl _))).mono ?_
      rintro e' w' (⟨h1, h2, h3⟩ | ⟨h1, o, h2, h3, h4⟩)
      · exact absurd hpre h1
      · have ho := best_nil _ h2
        subst ho
        refine ⟨h3, ?_⟩
        have hv : ({ reV d n (takeV [] L) true with votes := takeV (reV d n (takeV [] L) true).votes [], rc := (reV d n (takeV [] L) true).rc || decide (rcPost none e Q = 0) } : Vw) = reV d n (takeV [] L) true := by
          show (⟨60, setW d, true, encT (bidW n), hd0, takeV (takeV [] L) [], true || decide (rcPost none e Q = 0)⟩ : Vw) = _
          rw [takeV_nil, Bool.true_or]
          rfl
        rw [hv] at h4
        exact h4
    have r3t : ∀ W t, ownEv x.toNat = true → ReS w B E base C t d kA kc e gv Q rv L (reV d (n + 1) (takeV [] L) false) W → Calls Tryz.prog 30 #[.pointer (some ⟨C, 0, none⟩), .agg (evC e).toArray, gv, rv] W fun e' w' => e' = .returned (.int .i64 20) ∧ ∃ t', ReS w B E base C t' d kA kc e gv Q rv L (reV d (n + 1) (takeV [] L) false) w' := fun W t hown h => by
      have hpre := hpt (n + 1) hown
      rw [if_neg (Ne.symm (bid_next n))] at hpre
      have hl9 := takeV_len [] L
      have hl7 := HLO.out.2.2.1
      simp only [List.length_nil] at hl9
      refine (re_call w HT.out HEO.out HQO.out HLG.out HLR.out h rfl (by show (takeV [] L).length ≤ _; omega) L HLO.out.1 HLO.out.2.1 (by omega) rv h.v HLR.out.offV).mono ?_
      rintro e' w' (⟨h1, h2, h3⟩ | ⟨h1, _⟩)
      · have h2' : e' = .returned (.int .i64 (rcPre (setW d) 60 true (encT (bidW (n + 1))) e)) := h2
        rw [hpre] at h2'
        exact ⟨h2', h3⟩
      · have h1' : rcPre (setW d) 60 true (encT (bidW (n + 1))) e = 0 := h1
        rw [hpre] at h1'
        exact absurd h1' (by decide)
    have hMh : ∀ v ∈ takeV [] L, v.head = hh := fun v hv => by
      rcases (takeV_mem [] L v).1 hv with h | h
      · cases h
      · exact HLO.out.2.2.2.1 v h
    have hMl : (takeV [] L).length ≤ 1000 := by
      have hl9 := takeV_len [] L
      have hl7 := HLO.out.2.2.1
      simp only [List.length_nil] at hl9
      omega
    have hbid : ∀ (m : Int) W, In m → Calls Tryz.prog 31 #[.int .i64 m] W fun e w' => ∃ A, e = .returned (.agg (bdCells (bidW m) A none 1 0)) ∧ IntSl w' A [4] ∧ Only NoneOf W w' := fun m W hm => rbid31_any m hm W
    have R0 := Lib.hid r0
    have SN := Lib.hid sn
    have SF := Lib.hid sf
    have R1F := Lib.hid r1f
    have R1T := Lib.hid r1t
    have R2T := Lib.hid r2t
    have R3T := Lib.hid r3t
    have HMH := Lib.hid hMh
    have HML := Lib.hid hMl
    have HB := Lib.hid hbid
    obtain ⟨gK, oK, rfl, _⟩ := HKD.out k x hx
    have hkx : ∀ W, Only NoneOf w W → W.cell? ⟨gK, oK + k, none⟩ = some (.int .u8 (x.toNat : Int)) := fun W ho => by
      obtain ⟨g', o', e', h'⟩ := (HKD.out.none_ ho) k x hx
      cases e'
      exact h'
    have HKX := Lib.hid hkx
    have iK : (k : Int) < (d.kinds.length : Int) := by
      have := (List.getElem?_eq_some_iff.1 hx).1
      omega
    have kx : IntKind.i64.wrap (x.toNat : Int) = (x.toNat : Int) := IntWalk.i64_in _ (by have := x.toNat_lt; omega)
    have EN4 : Hid (n = (x.toNat : Int) / 4) := Lib.hid (by rw [en]; omega)
    have hx256 : x.toNat < 256 := x.toNat_lt
    have HEE2 := Lib.hid hee
    clear r0 sn sf r1f r1t r2t r3t hpt hMh hMl hbid hkx hx hpl en hee
    go_wp2_with fail
    refine (R0.out _ _ HS10.out).mono ?_
    rintro e11 w11 ⟨rfl, t11, hS11⟩
    have c1 : w11.cell? ⟨B, 1, none⟩ = some (.slice (some ⟨gK, oK, none⟩) d.kinds.length kc) := hS11.arg.wd.cell 1
    have ck := HKX.out _ hS11.arg.only
    have HS11 := Lib.hid hS11
    clear hS11 HS10 R0 le
    go_wp2_with fail
    rw [← EN4.out]
    refine (HB.out _ _ ⟨by have := EN4.out; omega, by have := EN4.out; omega⟩).mono ?_
    rintro e12 w12 ⟨qA, rfl, hqA, ho12⟩
    have HS12 := Lib.hid (And.intro (HS11.out.keep ho12) hqA)
    clear ho12 hqA c1 ck HS11
    go_upto_region 15 with (fail)
    obtain ⟨D, eD⟩ : ∃ D, D = w12.heap.size := ⟨_, rfl⟩
    have hV0 : Blk (w12.alloc (.cells (bdCells (bidW n) qA none 1 0) 75)) D 75 (bdCells (bidW n) qA none 1 0) ∧ IntSl (w12.alloc (.cells (bdCells (bidW n) qA none 1 0) 75)) qA [4] ∧ ReS w B E base C t11 d (some ⟨gK, oK, none⟩) kc e gv Q rv L ⟨60, setW d, false, ⟨#[]⟩, hd0, [], false⟩ (w12.alloc (.cells (bdCells (bidW n) qA none 1 0) 75)) :=
      ⟨by rw [eD]; exact Blk.new w12 _ _, HS12.out.2.none_ ((Only.refl _ _).alloc _), HS12.out.1.keep ((Only.refl _ _).alloc _)⟩
    have HV0 := Lib.hid hV0
    have ED := Lib.hid eD
    clear hV0 eD HS12
    rw [← ED.out]
    refine wp_gen (fun Z => Blk Z D 75 (bdCells (bidW n) qA none 1 0) ∧ IntSl Z qA [4] ∧ ReS w B E base C t11 d (some ⟨gK, oK, none⟩) kc e gv Q rv L ⟨60, setW d, false, ⟨#[]⟩, hd0, [], false⟩ Z) HV0.out ?_
    clear HV0 ED
    rintro V ⟨hVb, hVq, hVs⟩
    have q0 := hVb.cell 0
    have q1 := hVb.cell 1
    have q2 := hVb.cell 2
    have q3 := hVb.cell 3
    have q4 := hVb.cell 4
    simp only [List.getElem?_toArray, List.getElem?_cons_zero, List.getElem?_cons_succ] at q0 q1 q2 q3 q4
    have HV := Lib.hid (And.intro hVq hVs)
    clear hVb hVq hVs
    go_wp2_with fail
    refine (SN.out _ _ _ _ _ HV.out.2 HV.out.1).mono ?_
    rintro e13 w13 ⟨rfl, t13, hS13⟩
    have hS13' : ReS w B E base C t13 d (some ⟨gK, oK, none⟩) kc e gv Q rv L (reV d n [] false) w13 := hS13
    have HS13 := Lib.hid hS13'
    have le := hS13.ld HEO.out.1.prev
    clear hS13 hS13' HV q0 q1 q2 q3 q4
    cases hown : ownEv x.toNat with
    | false =>
      have cw : w13.cell? ⟨E, 2, none⟩ = some (.int .i64 e.who) := by rw [HS13.out.ev.cell]; rfl
      have hwho : (e.who != 60) = true := by
        have h1 : ¬ (x.toNat % 4 = 1 ∨ x.toNat % 4 = 2) := of_decide_eq_false hown
        rw [HEE2.out, evAt_who]
        by_cases h3 : x.toNat % 4 = 0
        · rw [if_pos h3]; rfl
        · rw [if_neg h3]
          have : x.toNat % 4 / 3 = 1 := by omega
          rw [this]; rfl
      have HOWN := Lib.hid hown
      clear hown
      go_wp2_with fail
      refine (R1F.out _ _ _ _ _ _ HOWN.out (Nat.zero_le _) (.inl rfl) HS13.out).mono ?_
      rintro e14 w14 ⟨rfl, t14, hS14⟩
      have HS14 := Lib.hid hS14
      clear hS14 HS13 le cw
      go_wp2_with fail
      refine (SF.out _ _ _ _ _ (Nat.zero_le _) (fun v h => by cases h) HS14.out).mono ?_
      rintro e15 w15 ⟨rfl, hS15⟩
      have le := hS15.ld HEO.out.1.prev
      have HS15 := Lib.hid hS15
      clear hS15 HS14
      go_wp2_with fail
      refine (R1F.out _ _ _ _ _ _ HOWN.out (Nat.zero_le _) (.inr rfl) HS15.out).mono ?_
      rintro e16 w16 ⟨rfl, t16, hS16⟩
      have c1 : w16.cell? ⟨B, 1, none⟩ = some (.slice (some ⟨gK, oK, none⟩) d.kinds.length kc) := hS16.arg.wd.cell 1
      have ck := HKX.out _ hS16.arg.only
      have HS16 := Lib.hid hS16
      clear hS16 HS15 le
      have HFE : Hid (∀ W, Calls Tryz.prog 33 #[.int .i64 35] W fun e w' => e = .returned (.int .i64 35) ∧ w' = W) := Lib.hid (fun W => few_any 35 W)
      go_wp2_with fail
      refine (HFE.out _).mono ?_
      rintro e17 w17 ⟨rfl, rfl⟩
      go_wp2_with fail
      rw [← EN4.out]
      refine (HB.out _ _ ⟨by have := EN4.out; omega, by have := EN4.out; omega⟩).mono ?_
      rintro e18 w18 ⟨qB, rfl, hqB, ho18⟩
      have HS18 := Lib.hid (And.intro (HS16.out.keep ho18) hqB)
      clear ho18 hqB c1 ck HS16
      go_wp2_with fail
      refine (SN.out _ _ _ _ _ HS18.out.1 HS18.out.2).mono ?_
      rintro e19 w19 ⟨rfl, t19, hS19⟩
      have hS19' : ReS w B E base C t19 d (some ⟨gK, oK, none⟩) kc e gv Q rv L (reV d (n + 1) [] false) w19 := hS19
      have HS19 := Lib.hid hS19'
      clear hS19 hS19' HS18
      go_wp2_with fail
      refine (SF.out _ _ _ _ _ (Nat.zero_le _) (fun v h => by cases h) HS19.out).mono ?_
      rintro e20 w20 ⟨rfl, hS20⟩
      have HS20 := Lib.hid hS20
      clear hS20 HS19
      go_wp2_with fail
      refine (SF.out _ _ _ _ _ (Nat.zero_le _) (fun v h => by cases h) HS20.out).mono ?_
      rintro e21 w21 ⟨rfl, hS21⟩
      have HF := Lib.hid hS21.arg.only
      clear hS21 HS20
      go_wp2_with fail
      go_ret
      exact ⟨rfl, HF.out⟩
    | true =>
      have h12 : x.toNat % 4 = 1 ∨ x.toNat % 4 = 2 := of_decide_eq_true hown
      have cw : w13.cell? ⟨E, 2, none⟩ = some (.int .i64 60) := by
        have h : w13.cell? ⟨E, 2, none⟩ = some (.int .i64 e.who) := by rw [HS13.out.ev.cell]; rfl
        have hw : e.who = 60 := by
          rw [HEE2.out, evAt_who, if_neg (by omega)]
          have : x.toNat % 4 / 3 = 0 := by omega
          rw [this]; rfl
        rw [h, hw]
      have ckd : w13.cell? ⟨E, 1, none⟩ = some (.int .i64 4) := by
        have h : w13.cell? ⟨E, 1, none⟩ = some (.int .i64 e.kind) := by rw [HS13.out.ev.cell]; rfl
        have hw : e.kind = 4 := by rw [HEE2.out, evAt_kind, if_neg (by omega)]
        rw [h, hw]
      have HOWN := Lib.hid hown
      clear hown h12
      go_wp2_with fail
      refine (R1T.out _ _ HOWN.out HS13.out).mono ?_
      rintro e14 w14 ⟨rfl, t14, hS14⟩
      have HS14 := Lib.hid hS14
      clear hS14 HS13 le cw ckd
      go_wp2_with fail
      refine (SF.out _ _ _ _ _ HML.out HMH.out HS14.out).mono ?_
      rintro e15 w15 ⟨rfl, hS15⟩
      have le := hS15.ld HEO.out.1.prev
      have HS15 := Lib.hid hS15
      clear hS15 HS14
      go_wp2_with fail
      refine (R2T.out _ _ HOWN.out HS15.out).mono ?_
      rintro e16 w16 ⟨rfl, t16, hS16⟩
      have c1 : w16.cell? ⟨B, 1, none⟩ = some (.slice (some ⟨gK, oK, none⟩) d.kinds.length kc) := hS16.arg.wd.cell 1
      have ck := HKX.out _ hS16.arg.only
      have HS16 := Lib.hid hS16
      clear hS16 HS15 le
      have HFE : Hid (∀ W, Calls Tryz.prog 33 #[.int .i64 0] W fun e w' => e = .returned (.int .i64 24) ∧ w' = W) := Lib.hid (fun W => few_any 0 W)
      go_wp2_with fail
      refine (HFE.out _).mono ?_
      rintro e17 w17 ⟨rfl, rfl⟩
      go_wp2_with fail
      rw [← EN4.out]
      refine (HB.out _ _ ⟨by have := EN4.out; omega, by have := EN4.out; omega⟩).mono ?_
      rintro e18 w18 ⟨qB, rfl, hqB, ho18⟩
      have HS18 := Lib.hid (And.intro (HS16.out.keep ho18) hqB)
      clear ho18 hqB c1 ck HS16
      go_wp2_with fail
      refine (SN.out _ _ _ _ _ HS18.out.1 HS18.out.2).mono ?_
      rintro e19 w19 ⟨rfl, t19, hS19⟩
      have hS19' : ReS w B E base C t19 d (some ⟨gK, oK, none⟩) kc e gv Q rv L (reV d (n + 1) (takeV [] L) false) w19 := hS19
      have HS19 := Lib.hid hS19'
      clear hS19 hS19' HS18
      go_wp2_with fail
      refine (SF.out _ _ _ _ _ HML.out HMH.out HS19.out).mono ?_
      rintro e20 w20 ⟨rfl, hS20⟩
      have le := hS20.ld HEO.out.1.prev
      have HS20 := Lib.hid hS20
      clear hS20 HS19
      go_wp2_with fail
      refine (R3T.out _ _ HOWN.out HS20.out).mono ?_
      rintro e21 w21 ⟨rfl, t21, hS21⟩
      have HS21 := Lib.hid hS21
      clear hS21 HS20 le
      go_wp2_with fail
      refine (SF.out _ _ _ _ _ HML.out HMH.out HS21.out).mono ?_
      rintro e22 w22 ⟨rfl, hS22⟩
      have HF := Lib.hid hS22.arg.only
      clear hS22 HS21
      go_wp2_with fail
      go_ret
      exact ⟨rfl, HF.out⟩
end Go.Proofs.YtgalfohobgjelaaGreatDoor
namespace Go.Proofs.YtgalfohobgjelaaGreatDoor
open Go.ChangeShapes Go.WideShapes Go.ChangeAt Go.RowKit
theorem gPow : Tryz.prog.globalNamed pow10 = some 3 := by kernel_rfl
theorem gPowType : (Tryz.prog.globals[3]?).map (·.type) = some 260 := by kernel_rfl
theorem cellsPow : Tryz.prog.cellsOf 260 = 20 := by kernel_rfl
theorem cellsU64 : Tryz.prog.cellsOf 179 = 1 := by kernel_rfl
/-- The tables that every row of this seat lists. -/
def listed : List (String × DataW Unit) := [("math/bits.deBruijn32tab", Rows.laid_math_bits_deBruijn32tab), ("math/bits.deBruijn64tab", Rows.laid_math_bits_deBruijn64tab), ("internal/strconv.uint64pow10", Rows.laid_internal_strconv_uint64pow10)]
theorem table {W : World} (h : laidMetH Tryz.prog listed W) : Tab W := by
  have h1 := h.filter (fun x => x.1 == pow10)
  have h2 : laidMetH Tryz.prog [(pow10, Lib.tabData .u64 Lib.pow10Tab)] W := h1
  exact Lib.tabIs_of_head (rest := []) gPow gPowType Tryz.underlying260 Tryz.underlying179 cellsU64 cellsPow h2
def layCells (cs : Array Value) : Obj → Obj
  | .cells _ t frozen => .cells cs t frozen
  | o => o
/-- The settled world, the three tables as their initialisers lay them. -/
noncomputable def laidWorld (os : Os) : World :=
  { World.holding Tryz.prog os ⟨#[], #[], []⟩ with heap := (((World.holding Tryz.prog os ⟨#[], #[], []⟩).heap.modify 4 (layCells #[.int .u8 0, .int .u8 1, .int .u8 28, .int .u8 2, .int .u8 29, .int .u8 14, .int .u8 24, .int .u8 3, .int .u8 30, .int .u8 22, .int .u8 20, .int .u8 15, .int .u8 25, .int .u8 17, .int .u8 4, .int .u8 8, .int .u8 31, .int .u8 27, .int .u8 13, .int .u8 23, .int .u8 21, .int .u8 19, .int .u8 16, .int .u8 7, .int .u8 26, .int .u8 12, .int .u8 18, .int .u8 6, .int .u8 11, .int .u8 5, .int .u8 10, .int .u8 9])).modify 5 (layCells #[.int .u8 0, .int .u8 1, .int .u8 56, .int .u8 2, .int .u8 57, .int .u8 49, .int .u8 28, .int .u8 3, .int .u8 61, .int .u8 58, .int .u8 42, .int .u8 50, .int .u8 38, .int .u8 29, .int .u8 17, .int .u8 4, .int .u8 62, .int .u8 47, .int .u8 59, .int .u8 36, .int .u8 45, .int .u8 43, .int .u8 51, .int .u8 22, .int .u8 53, .int .u8 39, .int .u8 33, .int .u8 30, .int .u8 24, .int .u8 18, .int .u8 12, .int .u8 5, .int .u8 63, .int .u8 55, .int .u8 48, .int .u8 27, .int .u8 60, .int .u8 41, .int .u8 37, .int .u8 16, .int .u8 46, .int .u8 35, .int .u8 44, .int .u8 21, .int .u8 52, .int .u8 32, .int .u8 23, .int .u8 11, .int .u8 54, .int .u8 26, .int .u8 40, .int .u8 15, .int .u8 34, .int .u8 20, .int .u8 31, .int .u8 10, .int .u8 25, .int .u8 14, .int .u8 19, .int .u8 9, .int .u8 13, .int .u8 8, .int .u8 7, .int .u8 6])).modify 3 (layCells #[.int .u64 1, .int .u64 10, .int .u64 100, .int .u64 1000, .int .u64 10000, .int .u64 100000, .int .u64 1000000, .int .u64 10000000, .int .u64 100000000, .int .u64 1000000000, .int .u64 10000000000, .int .u64 100000000000, .int .u64 1000000000000, .int .u64 10000000000000, .int .u64 100000000000000, .int .u64 1000000000000000, .int .u64 10000000000000000, .int .u64 100000000000000000, .int .u64 1000000000000000000, .int .u64 10000000000000000000]) }
end Go.Proofs.YtgalfohobgjelaaGreatDoor
