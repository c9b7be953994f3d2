/- What is proved here: several parts. the law that growing heads of one list are all accepted. Conditions: the numbers are bytes, the slices are short; the table of powers of ten lies. · what the rows of this seat share: what the listed table gives, and a world that holds the listed tables. No conditions. · how lists of ballots, and pairs of numbers, that come in as arguments are opened. Conditions: what comes in can be read. · how the client laws' arguments are opened: slices within records, worlds, slices of bytes. Conditions: what comes in can be read. -/
import Derived.Test.YtgalfohobgjelaaGreatDoorGr01
import Derived.Test.YtgalfohobgjelaaGreatDoorGr04
import Derived.Test.YtgalfohobgjelaaGreatDoorGr10
import Derived.Test.YtgalfohobgjelaaGreatDoorGr20
import Derived.Test.YtgalfohobgjelaaGreatDoorGr32
import Derived.Test.YtgalfohobgjelaaGreatDoorGr33
import Derived.Deep.DeepCutAuto
import Derived.Test.YtgalfohobgjelaaGreatDoorCards
import Derived.Test.YtgalfohobgjelaaGreatDoorTie
import Derived.Deep.DeepHandedRow
import Derived.Lib.LaidTab
import Derived.LaidSub
import Derived.ChangeMaps5
import Derived.OpenShut
namespace Go.Proofs.YtgalfohobgjelaaGreatDoor
open Go.RowKit Go.Shelf
attribute [local go_sem ↓ high] wdLoad_eq
/-- What the loads read. -/
structure GrW (w : World) (B : Nat) (d : Wd) (kA : Option Addr) (kc : Nat) (W : World) : Prop where
  wd : Blk W B tWd (wdC d kA kc)
  only : Only NoneOf w W
theorem GrW.keep {w : World} {B : Nat} {d : Wd} {kA : Option Addr} {kc : Nat} {W W' : World} (h : GrW w B d kA kc W) (ho : Only NoneOf W W') : GrW w B d kA kc W' := ⟨h.wd.only ho (fun e => e), h.only.trans ho⟩
/-- What is known of the client. -/
def GrV (d : Wd) (last k : Nat) (s : Vw) : Prop :=
  s.P = setW d ∧ s.rc = false ∧ SmallH s.head ∧ knownH s.head = hdOf ((lvW d false).take last) ∧ s.votes.length ≤ 7 * k ∧ ∀ v ∈ s.votes, ∃ n, n ≤ (lvW d false).length ∧ v.head = hdOf ((lvW d false).take n)
theorem GrV.next {d : Wd} {last k n : Nat} {s : Vw} (h : GrV d last k s) (hn : n ≤ (lvW d false).length) (hm : last ≤ (lvW d false).length) {o : Option Hd} (ho : BestL s.P (votesW d (hdOf ((lvW d false).take n)) 4095 0) o) :
    o = some (hdOf ((lvW d false).take n)) ∧ GrV d (max last n) (k + 1) { s with votes := takeV s.votes (votesW d (hdOf ((lvW d false).take n)) 4095 0), head := hdNext o (knownH s.head) (growL (txs ((lvW d false).take n)) (min last n)) s.head } := by
  obtain ⟨h1, h2, h3, h4, h5, h6⟩ := h
  have hl := lvW_le d false
  have hlt : ((lvW d false).take n).length ≤ 1000 := by rw [List.length_take]; omega
  have hb := ho
  rw [h1] at ho
  have eo := best_allW d _ ho
  refine ⟨eo, h1, h2, hdNext_small (votesW_small d (hdOf_small hlt) _ _) h3 hb, ?_, ?_, ?_⟩
  · show knownH (hdNext o (knownH s.head) _ s.head) = _
    rw [eo]
    exact grow_known _ (by omega) hn hm h4
  · show (takeV s.votes _).length ≤ _
    have a1 := takeV_len s.votes (votesW d (hdOf ((lvW d false).take n)) 4095 0)
    have a2 := votesW_len d (hdOf ((lvW d false).take n)) 4095 0
    omega
  · intro v hv
    rcases (takeV_mem _ _ v).1 hv with hv | hv
    · exact h6 v hv
    · exact ⟨n, hn, votesW_head hv⟩
theorem GrV.blames {d : Wd} {last k : Nat} {s : Vw} (h : GrV d last k s) : blL s.P s.votes = [] := blL_nil (fun u hu v hv e => by
  obtain ⟨h1, h2, h3, h4, h5, h6⟩ := h
  obtain ⟨n, n1, n2⟩ := h6 u hu
  obtain ⟨m, m1, m2⟩ := h6 v hv
  rw [n2, m2] at e ⊢
  have e2 : (((lvW d false).take n).length : Int) = (((lvW d false).take m).length : Int) := e
  rw [List.length_take, List.length_take, Nat.min_eq_left n1, Nat.min_eq_left m1] at e2
  rw [show n = m by omega])
/-- What lies there in the loop. -/
structure GwS (w : World) (B base C : Nat) (d : Wd) (kA : Option Addr) (kc : Nat) (lA : Option Addr) (lc : Nat) (last k : Nat) (top : Nat) (s : Vw) (W : World) : Prop where
  wd : Blk W B tWd (wdC d kA kc)
  l : TxOwn W w.heap.size (.slice lA (lvW d false).length lc) (lvW d false).length (lvW d false)
  has : Has w base C top s W
  v : GrV d last k s
section
variable {w : World} {B base C : Nat} {d : Wd} {kA : Option Addr} {kc : Nat} {lA : Option Addr} {lc : Nat} {last k top : Nat} {s : Vw} {W W' : World}
theorem GwS.keep (h : GwS w B base C d kA kc lA lc last k top s W) (ho : Only NoneOf W W') : GwS w B base C d kA kc lA lc last k top s W' :=
  ⟨h.wd.only ho (fun e => e), own_only h.l ho (fun _ _ e => e), h.has.keep ho, h.v⟩
theorem GwS.rd (h : GwS w B base C d kA kc lA lc last k top s W) : GrW w B d kA kc W := ⟨h.wd, h.has.only⟩
end
/-- .. with a growth made. -/
def GwU (w : World) (B base C : Nat) (d : Wd) (kA : Option Addr) (kc : Nat) (lA : Option Addr) (lc : Nat) (last k : Nat) (top : Nat) (s : Vw) (gv : Value) (Q : List Hs) (W : World) : Prop :=
  GwS w B base C d kA kc lA lc last k top s W ∧ HaOwn W w.heap.size gv Q.length Q
theorem GwU.keep {w : World} {B base C : Nat} {d : Wd} {kA : Option Addr} {kc : Nat} {lA : Option Addr} {lc : Nat} {last k top : Nat} {s : Vw} {gv : Value} {Q : List Hs} {W W' : World} (h : GwU w B base C d kA kc lA lc last k top s gv Q W) (ho : Only NoneOf W W') : GwU w B base C d kA kc lA lc last k top s gv Q W' :=
  ⟨h.1.keep ho, own_only h.2 ho (fun _ _ e => e)⟩
set_option maxRecDepth 100000 in
set_option maxHeartbeats 4000000 in
theorem grows_law (d : Wd) (hd : d.Ok) (kA : Option Addr) (kc : Nat) (sA : Option Addr) (S : List UInt8) (sc : Nat) (hsl : S.length ≤ 1000000000) (w : World) (hkd : KdAt w kA d.kinds) (hkl : d.kinds.length ≤ 1000000000) (hsd : KdAt w sA S) (ht : Tab w) :
    Calls Tryz.prog 4 #[.agg (wdC d kA kc), .slice sA S.length sc] w fun e w' => e = .returned (.bool true) ∧ Only NoneOf w w' := by
  obtain ⟨B, eB⟩ : ∃ B, B = w.heap.size := ⟨_, rfl⟩
  have hS0 : Blk (w.alloc (.cells (wdC d kA kc) tWd)) B tWd (wdC d kA kc) ∧ Only NoneOf w (w.alloc (.cells (wdC d kA kc) tWd)) := ⟨by rw [eB]; exact Blk.new w _ _, (Only.refl _ _).alloc _⟩
  obtain ⟨WV, eWV⟩ : ∃ v : Array Value, v = wdC d kA kc := ⟨_, rfl⟩
  obtain ⟨ln, eln⟩ : ∃ n, n = (lvW d false).length := ⟨_, rfl⟩
  have hln : ln ≤ 12 := by rw [eln]; exact lvW_le d false
  have hsan : ∀ W, Only NoneOf w W → Calls Tryz.prog 11 #[] W fun e w' => e = .returned (.bool true) ∧ Only NoneOf W w' := fun W ho => sanity31 W (ht.none ho)
  have hevs : ∀ W, Only NoneOf w W → Calls Tryz.prog 13 #[.agg WV, .bool false] W fun e' w' => ∃ rv, e' = .returned rv ∧ EvSl w' rv (evsW d false) ∧ Only NoneOf W w' := fun W ho => by
    rw [eWV]
    exact (wevents_any d hd false kA kc W (hkd.none_ ho) hkl (ht.none ho)).mono (fun e' w' ⟨rv, h1, h2, h3⟩ => ⟨rv, h1, h2.sl (fun e he => (evsW_ok he).1.prev), h3⟩)
  have hlvs : ∀ W rv, EvSl W rv (evsW d false) → Calls Tryz.prog 12 #[rv] W fun e' w' => ∃ A cap, e' = .returned (.slice A ln cap) ∧ TxOwn w' W.heap.size (.slice A ln cap) ln (lvW d false) ∧ ln ≤ cap ∧ Only NoneOf W w' := fun W rv h =>
    (rleaves_any (evsW d false) (fun e he => evsW_ok he) (by have := evsW_le d false; omega) rv W h).mono (fun e' w' ⟨lv, h1, h2, h3⟩ => by
      rw [show (evsW d false).length = ln from by rw [eln, lvW_len]] at h2
      obtain ⟨A, cap, rfl, h4, h5⟩ := own_form' h2
      exact ⟨A, cap, h1, h2, h4, h3⟩)
  have hset : ∀ W, Calls Tryz.prog 18 #[.agg WV] W fun e' w' => ∃ pv, e' = .returned (setV pv) ∧ PerSl w' pv (setW d) ∧ Only NoneOf W w' := fun W => by rw [eWV]; exact wsetup_any d hd kA kc W
  have hnew : ∀ W pv, Only NoneOf w W → PerSl W pv (setW d) → Calls Tryz.prog 17 #[.int .i64 60, setV pv] W fun e w' => ∃ C, e = .returned (.pointer (some ⟨C, 0, none⟩)) ∧ Has w W.heap.size C w'.heap.size ⟨60, setW d, false, ⟨#[]⟩, hd0, [], false⟩ w' ∧ Only NoneOf W w' := fun W pv ho hp => has_new w 60 (setW d) (setW_len _) pv W ho hp
  have hv0 : GrV d 0 0 ⟨60, setW d, false, ⟨#[]⟩, hd0, [], false⟩ := ⟨rfl, rfl, hd0_small, known_hd0' _, Nat.le_refl _, fun v h => by cases h⟩
  have hbl : ∀ W base C lA lc last k top s, k ≤ 8 → GwS w B base C d kA kc lA lc last k top s W → Calls Tryz.prog 20 #[.pointer (some ⟨C, 0, none⟩)] W fun e w' => ∃ ov, e = .returned ov ∧ BlSl w' ov [] ∧ Only NoneOf W w' := fun W base C lA lc last k top s hk h => by
    have hb := h.v.blames
    rw [← hb]
    obtain ⟨h1, h2, h3, h4, h5, h6⟩ := h.v
    exact has_blames w ht (by rw [h1]; exact setW_ok _) (by rw [h1]; exact setW_len _) (by omega) W h.has
  have hsf : ∀ W base C lA lc last k top s, k ≤ 8 → GwS w B base C d kA kc lA lc last k top s W → Calls Tryz.prog 22 #[.pointer (some ⟨C, 0, none⟩)] W fun e w' => e = .returned (.bool false) ∧ Only NoneOf W w' := fun W base C lA lc last k top s hk h => by
    obtain ⟨h1, h2, h3, h4, h5, h6⟩ := h.v
    have hs := has_safe w ht (by rw [h1]; exact setW_ok _) (by rw [h1]; exact setW_len _) (by omega) W h.has
    rw [h2] at hs
    exact hs
  have HS0 := Lib.hid hS0
  have EB := Lib.hid eB
  have EWV := Lib.hid eWV
  have ELN := Lib.hid eln
  have HSAN := Lib.hid hsan
  have HEVS := Lib.hid hevs
  have HLVS := Lib.hid hlvs
  have HSET := Lib.hid hset
  have HNEW := Lib.hid hnew
  have HV0 := Lib.hid hv0
  have HBL := Lib.hid hbl
  have HSF := Lib.hid hsf
  have HKD := Lib.hid hkd
  have HSD := Lib.hid hsd
  have HT := Lib.hid ht
  clear hS0 eB eWV eln hsan hevs hlvs hset hnew hv0 hbl hsf hkd hsd ht
  go_enter Tryz.func4, Tryz.ntmps4
  go_upto_region 1 with (fail)
  rw [← EB.out]
  refine wp_gen (fun Z => Blk Z B tWd (wdC d kA kc) ∧ Only NoneOf w Z) HS0.out ?_
  clear HS0
  rintro Z ⟨hB, hO⟩
  have HZ := Lib.hid (And.intro hB hO)
  clear hB hO
  go_wp2_with fail
  refine (HSAN.out _ HZ.out.2).mono ?_
  rintro e1 w1 ⟨rfl, ho1⟩
  have hB1 := HZ.out.1.only ho1 (fun e => e)
  have l1 := wd_load hB1
  rw [← EWV.out] at l1
  have H1 := Lib.hid (And.intro hB1 (HZ.out.2.trans ho1))
  clear hB1 ho1 HZ
  go_wp2_with fail
  refine (HEVS.out _ H1.out.2).mono ?_
  rintro e2 w2 ⟨rv, rfl, hrv, ho2⟩
  have H2 := Lib.hid (And.intro hrv (And.intro (H1.out.1.only ho2 (fun e => e)) (H1.out.2.trans ho2)))
  clear hrv ho2 l1 H1
  go_wp2_with fail
  refine (HLVS.out _ _ H2.out.1).mono ?_
  rintro e3 w3 ⟨lA, lc, rfl, hlv, hlc, ho3⟩
  have hB3 := H2.out.2.1.only ho3 (fun e => e)
  have l3 := wd_load hB3
  rw [← EWV.out] at l3
  have H3 := Lib.hid (And.intro (own_lower hlv H2.out.2.2.size) (And.intro hB3 (H2.out.2.2.trans ho3)))
  clear hlv hB3 ho3 H2
  go_wp2_with fail
  refine (HSET.out _).mono ?_
  rintro e4 w4 ⟨pv, rfl, hpv, ho4⟩
  have H4 := Lib.hid (And.intro hpv (And.intro (own_only H3.out.1 ho4 (fun _ _ e => e)) (And.intro (H3.out.2.1.only ho4 (fun e => e)) (H3.out.2.2.trans ho4))))
  clear hpv ho4 l3 H3
  go_wp2_with fail
  refine (HNEW.out _ _ H4.out.2.2.2 H4.out.1).mono ?_
  rintro e5 w5 ⟨C, rfl, hh5, ho5⟩
  obtain ⟨base, ebase⟩ : ∃ n, n = w4.heap.size := ⟨_, rfl⟩
  rw [← ebase] at hh5
  have hS5 : GwS w B base C d kA kc lA lc 0 0 w5.heap.size ⟨60, setW d, false, ⟨#[]⟩, hd0, [], false⟩ w5 :=
    ⟨H4.out.2.2.1.only ho5 (fun e => e), by rw [← ELN.out]; exact own_only H4.out.2.1 ho5 (fun _ _ e => e), hh5, HV0.out⟩
  have H5 := Lib.hid hS5
  clear hS5 hh5 ho5 H4 ebase
  go_wp2_with fail
  go_loopw [8, 9] (fun lv i wr => ∃ k last : Nat, lv = .int .i64 (last : Int) ∧ i = .int .i64 (k : Int) ∧ k ≤ 8 ∧ k ≤ S.length ∧ last ≤ ln ∧ ∃ top s, GwS w B base C d kA kc lA lc last k top s wr) (fun _ i _ => 8 - (intOf i).toNat)
  case atStart => exact ⟨0, 0, rfl, rfl, by omega, by omega, by omega, _, _, H5.out⟩
  case round =>
    clear H5
    obtain ⟨k, last, rfl, rfl, hk8, hkS, hll, top, s, hS⟩ := hrel
    have HS := Lib.hid hS
    clear hS
    by_cases hlt : k < S.length ∧ k < 8
    · obtain ⟨hlt, h8⟩ := hlt
      obtain ⟨x, g, o, hx, rfl, _⟩ := byte_at HSD.out hlt
      have hc : wr.cell? ⟨g, o + k, none⟩ = some (.int .u8 (x.toNat : Int)) := by
        obtain ⟨g', o', e, h⟩ := (HSD.out.none_ HS.out.has.only) k x hx
        cases e
        exact h
      have d1 : decide ((k : Int) < (S.length : Int)) = true := decide_eq_true (by omega)
      have d2 : decide ((k : Int) < 8) = true := decide_eq_true (by omega)
      have i1 : (k : Int) < (S.length : Int) := by omega
      have i2 : (k : Int) < 8 := by omega
      have hx256 := x.toNat_lt
      obtain ⟨n, en⟩ : ∃ n : Nat, n = x.toNat % (ln + 1) := ⟨_, rfl⟩
      have hn : n ≤ ln := by rw [en]; exact Nat.le_of_lt_succ (Nat.mod_lt _ (by omega))
      have kt : ((x.toNat : Nat) : Int).tmod ((ln : Int) + 1) = (n : Int) := by
        rw [Int.tmod_eq_emod_of_nonneg (by omega), en]; rfl
      have kx : IntKind.i64.wrap ((x.toNat : Nat) : Int) = ((x.toNat : Nat) : Int) := IntWalk.i64_in _ (by omega)
      have kl : IntKind.i64.wrap ((ln : Int) + 1) = (ln : Int) + 1 := IntWalk.i64_in _ (by omega)
      have kn : IntKind.i64.wrap (n : Int) = (n : Int) := IntWalk.i64_in _ (by omega)
      have e0 : ¬ (ln : Int) + 1 = 0 := by omega
      have hln8 : (lvW d false).length = ln := ELN.out.symm
      have hcap : ln ≤ lc := by
        have h := HS.out.l
        rw [hln8] at h
        obtain ⟨A, cap, e, h4, h5⟩ := own_form' h
        cases e; exact h4
      have hnc : (n : Int) ≤ (lc : Int) := by omega
      have hgr : ∀ W, GwS w B base C d kA kc lA lc last k top s W → Calls Tryz.prog 21 #[.slice lA n lc, .int .i64 (min (last : Int) (n : Int))] W fun e w' => ∃ gv, e = .returned (.tuple #[gv, .bool true]) ∧ HaOwn w' W.heap.size gv (growL (txs ((lvW d false).take n)) (min last n)).length (growL (txs ((lvW d false).take n)) (min last n)) ∧ Only NoneOf W w' := fun W h => by
        have h1 := h.l.sl.first (k := n) (by rw [hln8]; exact hn)
        rw [show min (last : Int) (n : Int) = ((min last n : Nat) : Int) by omega]
        exact rgrowth_any ((lvW d false).take n) (min last n) (by rw [List.length_take, hln8]; omega) (by rw [List.length_take, hln8]; omega) (short_take (lvW_short d false) n) _ W h1
      have HGR := Lib.hid hgr
      have EN := Lib.hid en
      have HLN8 := Lib.hid hln8
      clear hgr en hln8
      go_wp2_with fail
      refine (HGR.out _ HS.out).mono ?_
      rintro e6 w6 ⟨gv, rfl, hgv, ho6⟩
      obtain ⟨hh, ehh⟩ : ∃ h, h = hdOf ((lvW d false).take n) := ⟨_, rfl⟩
      obtain ⟨Q, eQ⟩ : ∃ q, q = growL (txs ((lvW d false).take n)) (min last n) := ⟨_, rfl⟩
      rw [← eQ] at hgv
      obtain ⟨r, er⟩ : ∃ r : Int, r = if n < last then 32 else 0 := ⟨_, rfl⟩
      have hok : hh.Ok := by rw [ehh]; exact hdOf_ok (by rw [List.length_take]; omega)
      have hU0 : GwU w B base C d kA kc lA lc last k top s gv Q w6.drew := ⟨HS.out.keep (ho6.trans (Only.refl _ _).drew), own_only (own_lower hgv HS.out.has.only.size) (Only.refl NoneOf _).drew (fun _ _ e => e)⟩
      have hS0 : GrW w B d kA kc w6.drew := hU0.1.rd
      have hld : ∀ W, GrW w B d kA kc W → (wdLoad (.pointer (some ⟨B, 0, none⟩))).run Tryz.prog W = .ok (.agg WV) W := fun W h => by rw [EWV.out]; exact wd_load h.wd
      have k5 : ∀ W, GwU w B base C d kA kc lA lc last k top s gv Q W → Calls Tryz.prog 15 #[.slice lA n lc] W fun e w' => e = .returned (.agg (hdC hh).toArray) ∧ GrW w B d kA kc w' ∧ GwU w B base C d kA kc lA lc last k top s gv Q w' := fun W h => by
        have h1 := h.1.l.sl.first (k := n) (by rw [HLN8.out]; exact hn)
        rw [ehh]
        exact (rheadof_any _ (by rw [List.length_take]; omega) (short_take (lvW_short d false) n) _ W h1).mono (fun e w' ⟨g1, g2⟩ => ⟨g1, (h.keep g2).1.rd, h.keep g2⟩)
      have k6 : ∀ W, GwU w B base C d kA kc lA lc last k top s gv Q W → Calls Tryz.prog 14 #[.agg WV, .agg (hdC hh).toArray, .int .u16 4095, .int .u16 0] W fun e w' => ∃ rv, e = .returned rv ∧ VtOwn w' top rv (votesW d hh 4095 0).length (votesW d hh 4095 0) ∧ GrW w B d kA kc w' ∧ GwU w B base C d kA kc lA lc last k top s gv Q w' := fun W h => by
        rw [EWV.out]
        exact (wvotes_any d hd hh hok 4095 0 (by omega) (by omega) kA kc W).mono (fun e w' ⟨rv, g1, g2, g3⟩ => ⟨rv, g1, own_lower g2 h.1.has.size, (h.keep g3).1.rd, h.keep g3⟩)
      have k7 : ∀ W rv, GwU w B base C d kA kc lA lc last k top s gv Q W → VtOwn W top rv (votesW d hh 4095 0).length (votesW d hh 4095 0) → Calls Tryz.prog 19 #[.pointer (some ⟨C, 0, none⟩), rv, gv] W fun e w' => e = .returned (.int .i64 r) ∧ GrW w B d kA kc w' ∧ ∃ top' s', GwS w B base C d kA kc lA lc (max last n) (k + 1) top' s' w' := fun W rv h hv => by
        obtain ⟨v1, v2, v3, v4, v5, v6⟩ := h.1.v
        have hqok : HsOk Q := by rw [eQ]; exact growL_ok _ _
        have hql : Q.length ≤ 1000 := by rw [eQ]; exact Nat.le_trans (growL_len _ _) (by rw [txs_len, List.length_take]; omega)
        have hsm : SmallH hh := by rw [ehh]; exact hdOf_small (by rw [List.length_take]; omega)
        refine (has_head w HT.out (by rw [v1]; exact setW_ok _) (by rw [v1]; exact setW_len _) v3 _ (votesW_ok d hok _ _) (votesW_small d hsm _ _) (Nat.le_trans (votesW_len _ _ _ _) (by omega)) (by omega) rv Q hqok (by omega) gv W h.1.has (hv.sl (votesW_ok d hok _ _)) (offV_top hv (Nat.le_refl _)) (h.2.sl hqok) (off_own h.2 (by decide) (by decide) (by decide))).mono ?_
        rintro e w' ⟨o, ho, he, hh', hnr⟩
        rw [ehh] at ho
        have hnx := h.1.v.next (by rw [HLN8.out]; exact hn) (by rw [HLN8.out]; exact hll) ho
        rw [← ehh, ← eQ] at hnx
        rw [hnx.1, ehh, eQ, grow_res _ (by rw [HLN8.out]; omega) (by rw [HLN8.out]; exact hn) (by rw [HLN8.out]; exact hll) v4, ← er] at he
        have hG : GwS w B base C d kA kc lA lc (max last n) (k + 1) _ _ w' := ⟨hnr.blk h.1.wd (by decide) (by decide) (by decide), hnr.own h.1.l (by decide) (by decide) (by decide), hh', hnx.2⟩
        exact ⟨he, hG.rd, _, _, hG⟩
      have K5 := Lib.hid k5
      have K6 := Lib.hid k6
      have K7 := Lib.hid k7
      have ER := Lib.hid er
      clear k5 k6 k7 er ehh eQ hok hgv ho6 HGR HS
      go_upto_region 10 with (fail)
      go_region_held3 (fun W => GrW w B d kA kc W) (first | (with_reducible assumption))
        (first
          | (go_at_call 15; (with_reducible refine (K5.out _ (by assumption)).mono ?_); rintro e7 w7 ⟨rfl, hS7, hU7⟩)
          | (go_at_call 14; (with_reducible refine (K6.out _ (by assumption)).mono ?_); rintro e8 w8 ⟨rv8, rfl, hv8, hS8, hU8⟩)
          | (go_at_call 19; (with_reducible refine (K7.out _ _ (by assumption) (by assumption)).mono ?_); rintro e9 w9 ⟨rfl, hS9, hF9⟩))
      all_goals
        obtain ⟨t9, s9, hG9⟩ := hF9
        have HG9 := Lib.hid hG9
        have j8 : ((max last n : Nat) : Int) = max (last : Int) (n : Int) := by omega
        have HJ := Lib.hid j8
        clear hG9 hS7 hU7 hS8 hU8 hv8 hS9 j8 hld hU0 hS0 K5 K6 K7
        by_cases hnl : n < last
        · obtain rfl : r = 32 := by rw [ER.out, if_pos hnl]
          have d3 : decide ((n : Int) < (last : Int)) = true := decide_eq_true (by omega)
          have d4 : decide ((last : Int) ≤ (n : Int)) = false := decide_eq_false (by omega)
          have i3 : (n : Int) < (last : Int) := by omega
          have i4 : ¬ (last : Int) ≤ (n : Int) := by omega
          go_wp2_with fail
          go_roundw
          case rel => exact ⟨k + 1, max last n, by rw [HJ.out], rfl, by omega, by omega, by omega, _, _, HG9.out⟩
          case measure => simp [intOf]; omega
        · obtain rfl : r = 0 := by rw [ER.out, if_neg hnl]
          have d3 : decide ((n : Int) < (last : Int)) = false := decide_eq_false (by omega)
          have d4 : decide ((last : Int) ≤ (n : Int)) = true := decide_eq_true (by omega)
          have i3 : ¬ (n : Int) < (last : Int) := by omega
          have i4 : (last : Int) ≤ (n : Int) := by omega
          go_wp2_with fail
          go_roundw
          case rel => exact ⟨k + 1, max last n, by rw [HJ.out], rfl, by omega, by omega, by omega, _, _, HG9.out⟩
          case measure => simp [intOf]; omega
    · have hbl := HBL.out wr base C lA lc last k top s hk8 HS.out
      have HB := Lib.hid hbl
      clear hbl
      by_cases hks : k < S.length
      · have d1 : decide ((k : Int) < (S.length : Int)) = true := decide_eq_true (by omega)
        have d2 : decide ((k : Int) < 8) = false := decide_eq_false (by omega)
        have i1 : (k : Int) < (S.length : Int) := by omega
        have i2 : ¬ (k : Int) < 8 := by omega
        go_wp2_with fail
        refine HB.out.mono ?_
        rintro e6 w6 ⟨ov, rfl, ⟨bA, bcap, rfl, _, _, _⟩, ho6⟩
        have HS6 := Lib.hid (HS.out.keep ho6)
        clear ho6 HB HS
        go_wp2_with fail
        refine (HSF.out _ _ _ _ _ _ _ _ _ hk8 HS6.out).mono ?_
        rintro e7 w7 ⟨rfl, ho7⟩
        have HF := Lib.hid (HS6.out.has.only.trans ho7)
        clear ho7 HS6
        go_wp2_with fail
        go_ret
        exact ⟨rfl, HF.out⟩
      · have d1 : decide ((k : Int) < (S.length : Int)) = false := decide_eq_false (by omega)
        have i1 : ¬ (k : Int) < (S.length : Int) := by omega
        go_wp2_with fail
        refine HB.out.mono ?_
        rintro e6 w6 ⟨ov, rfl, ⟨bA, bcap, rfl, _, _, _⟩, ho6⟩
        have HS6 := Lib.hid (HS.out.keep ho6)
        clear ho6 HB HS
        go_wp2_with fail
        refine (HSF.out _ _ _ _ _ _ _ _ _ hk8 HS6.out).mono ?_
        rintro e7 w7 ⟨rfl, ho7⟩
        have HF := Lib.hid (HS6.out.has.only.trans ho7)
        clear ho7 HS6
        go_wp2_with fail
        go_ret
        exact ⟨rfl, HF.out⟩
end Go.Proofs.YtgalfohobgjelaaGreatDoor
namespace Go.Proofs.YtgalfohobgjelaaGreatDoor
open Go.ChangeShapes Go.WideShapes Go.ChangeAt Go.RowKit
theorem gPow : Tryz.prog.globalNamed pow10 = some 3 := by kernel_rfl
theorem gPowType : (Tryz.prog.globals[3]?).map (·.type) = some 260 := by kernel_rfl
theorem cellsPow : Tryz.prog.cellsOf 260 = 20 := by kernel_rfl
theorem cellsU64 : Tryz.prog.cellsOf 179 = 1 := by kernel_rfl
/-- The tables that every row of this seat lists. -/
def listed : List (String × DataW Unit) := [("math/bits.deBruijn32tab", Rows.laid_math_bits_deBruijn32tab), ("math/bits.deBruijn64tab", Rows.laid_math_bits_deBruijn64tab), ("internal/strconv.uint64pow10", Rows.laid_internal_strconv_uint64pow10)]
theorem table {W : World} (h : laidMetH Tryz.prog listed W) : Tab W := by
  have h1 := h.filter (fun x => x.1 == pow10)
  have h2 : laidMetH Tryz.prog [(pow10, Lib.tabData .u64 Lib.pow10Tab)] W := h1
  exact Lib.tabIs_of_head (rest := []) gPow gPowType Tryz.underlying260 Tryz.underlying179 cellsU64 cellsPow h2
def layCells (cs : Array Value) : Obj → Obj
  | .cells _ t frozen => .cells cs t frozen
  | o => o
/-- The settled world, the three tables as their initialisers lay them. -/
noncomputable def laidWorld (os : Os) : World :=
  { World.holding Tryz.prog os ⟨#[], #[], []⟩ with heap := (((World.holding Tryz.prog os ⟨#[], #[], []⟩).heap.modify 4 (layCells #[.int .u8 0, .int .u8 1, .int .u8 28, .int .u8 2, .int .u8 29, .int .u8 14, .int .u8 24, .int .u8 3, .int .u8 30, .int .u8 22, .int .u8 20, .int .u8 15, .int .u8 25, .int .u8 17, .int .u8 4, .int .u8 8, .int .u8 31, .int .u8 27, .int .u8 13, .int .u8 23, .int .u8 21, .int .u8 19, .int .u8 16, .int .u8 7, .int .u8 26, .int .u8 12, .int .u8 18, .int .u8 6, .int .u8 11, .int .u8 5, .int .u8 10, .int .u8 9])).modify 5 (layCells #[.int .u8 0, .int .u8 1, .int .u8 56, .int .u8 2, .int .u8 57, .int .u8 49, .int .u8 28, .int .u8 3, .int .u8 61, .int .u8 58, .int .u8 42, .int .u8 50, .int .u8 38, .int .u8 29, .int .u8 17, .int .u8 4, .int .u8 62, .int .u8 47, .int .u8 59, .int .u8 36, .int .u8 45, .int .u8 43, .int .u8 51, .int .u8 22, .int .u8 53, .int .u8 39, .int .u8 33, .int .u8 30, .int .u8 24, .int .u8 18, .int .u8 12, .int .u8 5, .int .u8 63, .int .u8 55, .int .u8 48, .int .u8 27, .int .u8 60, .int .u8 41, .int .u8 37, .int .u8 16, .int .u8 46, .int .u8 35, .int .u8 44, .int .u8 21, .int .u8 52, .int .u8 32, .int .u8 23, .int .u8 11, .int .u8 54, .int .u8 26, .int .u8 40, .int .u8 15, .int .u8 34, .int .u8 20, .int .u8 31, .int .u8 10, .int .u8 25, .int .u8 14, .int .u8 19, .int .u8 9, .int .u8 13, .int .u8 8, .int .u8 7, .int .u8 6])).modify 3 (layCells #[.int .u64 1, .int .u64 10, .int .u64 100, .int .u64 1000, .int .u64 10000, .int .u64 100000, .int .u64 1000000, .int .u64 10000000, .int .u64 100000000, .int .u64 1000000000, .int .u64 10000000000, .int .u64 100000000000, .int .u64 1000000000000, .int .u64 10000000000000, .int .u64 100000000000000, .int .u64 1000000000000000, .int .u64 10000000000000000, .int .u64 100000000000000000, .int .u64 1000000000000000000, .int .u64 10000000000000000000]) }
end Go.Proofs.YtgalfohobgjelaaGreatDoor
namespace Go.Proofs.YtgalfohobgjelaaGreatDoor
open Go.ChangeShapes Go.WideShapes Go.ChangeAt Go.RowKit Go.Deep
section
variable {H : Type} {enc : TypeId × Value → H} {w : World} {base b0 : Nat} {spare : Nat → Bool} {held : Bool} {r : Reach} {v : Value} {d : DataW H} {p : List MemPlace}
theorem v_u8 {n : Nat} {c : Value} {x : DataW H × List MemPlace} (h : DataW.trod enc Tryz.prog w base spare held n 5 [c] = some x) : ∃ m : Nat, c = .int .u8 (m : Int) ∧ m < 256 := by
  obtain ⟨m, hc, _, hw⟩ := DataW.trod_int Tryz.underlying5 h
  have hb : 0 ≤ m ∧ m ≤ 255 := by simpa [Lit.wf, IntKind.min, IntKind.max, IntKind.signed, IntKind.bits] using hw
  exact ⟨m.toNat, by rw [(List.cons.inj hc).1]; congr 1; omega, by omega⟩
end
end Go.Proofs.YtgalfohobgjelaaGreatDoor
namespace Go.Proofs.YtgalfohobgjelaaGreatDoor
open Go.ChangeShapes Go.WideShapes Go.ChangeAt Go.RowKit Go.Deep
theorem bulk_pos {H : Type} (d : DataW H) : 1 ≤ Rows.uptoBulk d := by
  cases d with
  | lit l => cases l <;> simp [Rows.uptoBulk]
  | _ => simp [Rows.uptoBulk]
theorem bulk_all {H : Type} : ∀ (l : List (DataW H)), l.length ≤ Rows.uptoBulkAll l
  | [] => Nat.zero_le _
  | d :: l => by
    have h1 := bulk_pos d
    have h2 := bulk_all l
    simp only [Rows.uptoBulkAll, List.length_cons]
    omega
section
variable {H : Type} {enc : TypeId × Value → H} {P : Program} {w : World} {base : Nat} {spare : Nat → Bool} {held : Bool}
theorem open_trodB {α : Type} {Q : α → Prop} {M : α → Nat} (f : α → List Value) (s : Nat) (hs0 : 0 < s) {t e : TypeId} {fuel : Nat} {x : DataW H × List MemPlace} (hf : ∀ x, (f x).length = s) (ht : P.underlying t = some (.slice e)) (hC : P.cellsOf e = s)
    (hread : ∀ n cs x, DataW.trod enc P w base spare held n e cs = some x → ∃ y : α, cs = f y ∧ Q y ∧ M y ≤ Rows.uptoBulk x.1)
    {c0 : Value} (hf0 : DataW.trod enc P w base spare held fuel t [c0] = some x) : ∃ A n c L, c0 = .slice A n c ∧ Arg f s w A n L ∧ n ≤ maxLen ∧ n ≤ c ∧ c ≤ maxLen ∧ (∀ y ∈ L, Q y ∧ M y ≤ Rows.uptoBulk x.1) ∧ L.length ≤ Rows.uptoBulk x.1 := by
  rcases open_slice ht hf0 with ⟨hcs, _⟩ | ⟨a, len, cap, m, n, D, Pl, hcs, hb, hl, hm, hmm, hx, hi⟩
  · simp at hcs
    subst hcs
    exact ⟨none, 0, 0, [], rfl, ⟨rfl, fun i t h => by simp at h⟩, by unfold maxLen; omega, Nat.le_refl _, Nat.zero_le _, fun y hy => (by cases hy), Nat.zero_le _⟩
  · simp at hcs
    subst hcs
    have hd : x.1 = .slice ((List.range len).map D) ((List.range (m - len)).map fun j => D (len + j)) := by rw [hx]
    have hml : len ≤ m := by rw [hmm]; split <;> omega
    have hspot0 : 0 < len → a.spot = none := fun hl0 => by
      obtain ⟨cs', hc, htr⟩ := hi 0 (by omega)
      obtain ⟨y, rfl, hq, _⟩ := hread _ _ _ htr
      rw [hC] at hc
      obtain ⟨_, hcl, hat⟩ := World.cells?_some hc
      have h1 : w.cell? ((a.add (0 * s)).add 0) = (f y)[0]? := hat 0 hs0
      rw [List.getElem?_eq_getElem (by rw [hf]; exact hs0)] at h1
      have h2 := cell_spot h1
      simpa [Addr.add] using h2
    have key : ∀ i, i < len → ∃ y : α, (Q y ∧ M y ≤ Rows.uptoBulk x.1) ∧ a.spot = none ∧ a.block < w.heap.size ∧ ∀ j, j < s → w.cell? ⟨a.block, a.off + i * s + j, none⟩ = (f y)[j]? := by
      intro i hil
      obtain ⟨cs', hc, htr⟩ := hi i (by omega)
      obtain ⟨y, rfl, hq, hm0⟩ := hread _ _ _ htr
      have hm1 : M y ≤ Rows.uptoBulk x.1 := by
        refine Nat.le_trans hm0 ?_
        rw [hd]
        simp only [Rows.uptoBulk]
        have := bulk_mem (l := (List.range len).map D) (List.mem_map.2 ⟨i, List.mem_range.2 hil, rfl⟩)
        omega
      rw [hC] at hc
      obtain ⟨_, hcl, hat⟩ := World.cells?_some hc
      have hcell : ∀ j, j < s → w.cell? ((a.add (i * s)).add j) = (f y)[j]? := fun j hj => hat j hj
      have hspot : ∀ j, j < s → ((a.add (i * s)).add j).spot = none := fun j hj => by
        have h1 := hcell j hj
        rw [List.getElem?_eq_getElem (by rw [hf]; exact hj)] at h1
        exact cell_spot h1
      have hblk : a.block < w.heap.size := by
        have h1 := hcell 0 hs0
        rw [List.getElem?_eq_getElem (by rw [hf]; exact hs0)] at h1
        have := World.block_lt_of_cell? w _ h1
        rw [(add_off _ _).2, (add_off _ _).2] at this
        exact this
      refine ⟨y, ⟨hq, hm1⟩, ?_, hblk, fun j hj => ?_⟩
      · exact hspot0 (by omega)
      · rw [← hcell j hj, addr_none (hspot j hj), (add_off _ _).1, (add_off _ _).2, (add_off _ _).1, (add_off _ _).2]
    obtain ⟨L, hL, hget⟩ := list_of len key
    refine ⟨some a, len, cap, L, rfl, ⟨hL, fun i y hy => ?_⟩, by omega, hl, hm, fun y hy => ?_, ?_⟩
    · obtain ⟨_, h1, h2, h3⟩ := hget i y hy
      exact ⟨a.block, a.off, by rw [← addr_none h1], h2, h3⟩
    · obtain ⟨i, hi'⟩ := List.getElem?_of_mem hy
      exact (hget i y hi').1
    · rw [hL, hd]
      have := bulk_all ((List.range len).map D)
      simp only [List.length_map, List.length_range] at this
      simp only [Rows.uptoBulk]
      omega
end
section
variable {H : Type} {enc : TypeId × Value → H} {w : World} {base b0 : Nat} {spare : Nat → Bool} {held : Bool} {r : Reach} {v : Value} {d : DataW H} {p : List MemPlace}
def u8C (x : UInt8) : List Value := [.int .u8 (x.toNat : Int)]
theorem w_u8 {n : Nat} {cs : List Value} {x : DataW H × List MemPlace} (h : DataW.trod enc Tryz.prog w base spare held n 5 cs = some x) : ∃ y : UInt8, cs = u8C y ∧ True := by
  obtain ⟨m, hc, _, hw⟩ := DataW.trod_int Tryz.underlying5 h
  have hb : 0 ≤ m ∧ m ≤ 255 := by simpa [Lit.wf, IntKind.min, IntKind.max, IntKind.signed, IntKind.bits] using hw
  refine ⟨UInt8.ofNat m.toNat, ?_, trivial⟩
  rw [hc]
  unfold u8C
  rw [UInt8.toNat_ofNat']
  congr 2
  omega
theorem arg_kd {A : Option Addr} {n : Nat} {L : List UInt8} (h : Arg u8C 1 w A n L) : KdAt w A L := fun j x hx => by
  obtain ⟨bk, off, hA, _, hc⟩ := h.2 j x hx
  have h0 := hc 0 (by omega)
  rw [Nat.mul_one, Nat.add_zero] at h0
  exact ⟨bk, off, hA, h0⟩
theorem u8s_trod {n : Nat} {c : Value} {x : DataW H × List MemPlace} (h : DataW.trod enc Tryz.prog w base spare held n 22 [c] = some x) : ∃ (A : Option Addr) (k : Nat) (L : List UInt8), c = .slice A L.length k ∧ KdAt w A L ∧ L.length ≤ Rows.uptoBulk x.1 := by
  obtain ⟨A, m, k, L, rfl, hA, _, _, _, _, hl⟩ := open_trodB (P := Tryz.prog) (Q := fun _ => True) (M := fun _ => 0) u8C 1 (by omega) (fun _ => rfl) Tryz.underlying22 (by kernel_rfl) (fun n cs x hx => by
    obtain ⟨y, h1, h2⟩ := w_u8 hx
    exact ⟨y, h1, h2, Nat.zero_le _⟩) h
  exact ⟨A, k, L, by rw [hA.1], arg_kd hA, hl⟩
set_option maxRecDepth 100000 in
theorem u8s_open (hv : Value.okWide Tryz.prog w r b0 22 v) (h : DataW.Trod enc Tryz.prog w base spare held 22 v d p) : ∃ (A : Option Addr) (k : Nat) (L : List UInt8), v = .slice A L.length k ∧ KdAt w A L ∧ L.length ≤ Rows.uptoBulk d := by
  obtain ⟨a0, len, cap, rfl⟩ := okWide_slice Tryz.underlying22 hv
  obtain ⟨fuel, hf⟩ := h
  exact u8s_trod hf
set_option maxRecDepth 100000 in
theorem wd_open (hv : Value.okWide Tryz.prog w r b0 24 v) (h : DataW.Trod enc Tryz.prog w base spare held 24 v d p) : ∃ (e : Wd) (kA : Option Addr) (kc : Nat), v = .agg (wdC e kA kc) ∧ e.Ok ∧ KdAt w kA e.kinds ∧ e.kinds.length ≤ Rows.uptoBulk d := by
  have hagg : ∃ cs, v = .agg cs := by
    have hv' := hv
    simp only [Value.okWide, Tryz.underlying24] at hv'
    obtain ⟨cs, h1, _⟩ := hv'
    exact ⟨cs, h1⟩
  obtain ⟨cs, rfl⟩ := hagg
  obtain ⟨fuel, hf⟩ := h
  obtain ⟨xs, m, _, hx, hcl, hlen, hg⟩ := DataW.trod_struct Tryz.underlying24 hf
  have e3 : Tryz.prog.cellsOf 24 = 3 := by kernel_rfl
  have e1 : Tryz.prog.cellsOf 5 = 1 := by kernel_rfl
  have e2 : Tryz.prog.cellsOf 22 = 1 := by kernel_rfl
  have hl : (Value.agg cs).cells.toList.length = 3 := hcl.trans e3
  obtain ⟨l⟩ := cs
  simp only [Value.cells] at hl hg
  match l, hl with
  | [c0, c1, c2], _ =>
    match xs, hlen with
    | [y0, y1, y2], _ =>
      have h0 := hg 0 _ rfl
      have h1 := hg 1 _ rfl
      have h2 := hg 2 _ rfl
      clear hg
      simp [e1, e2] at h0 h1 h2
      obtain ⟨x, rfl, bx⟩ := v_u8 h0
      obtain ⟨kA, kc, ks, rfl, hk, hkl⟩ := u8s_trod h1
      obtain ⟨y, rfl, by'⟩ := v_u8 h2
      refine ⟨⟨x, ks, y⟩, kA, kc, rfl, ⟨bx, by'⟩, hk, ?_⟩
      have hd : d = .agg [y0.1, y1.1, y2.1] := by simpa using congrArg Prod.fst hx
      rw [hd]
      simp only [Rows.uptoBulk, Rows.uptoBulkAll]
      show ks.length ≤ _
      omega
end
end Go.Proofs.YtgalfohobgjelaaGreatDoor
