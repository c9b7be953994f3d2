/- What is proved here: several parts. growths and paths, by the reference. Conditions: there are few texts, and they are short. · what a check of growth finds, in plain Lean: the program's way and the reference's are one. No conditions. · several parts. chains of events in plain Lean: where a chain breaks off, chains that are made, and what becomes of them if one event is another; no program in sight. No conditions. · how an event, a hash and a slice of events that come in are opened to plain events. Conditions: what comes in can be read. · texts are joined with blanks, by Go's library. Conditions: there are two texts or more, a thousand at most, and they are short. · numbers and texts joined, quoted texts, by the program's layer of events. Conditions: the texts are short; the table of powers of ten reads as its initialiser lays it. · texts, codes and hashes of events, by the program. Conditions: names and texts are short; the table of powers of ten reads as its initialiser lays it. · codes and hashes of events, by the program. Conditions: names and texts are short; the table of powers of ten reads as its initialiser lays it. · hashes of events, by the program. Conditions: names and texts are short; the table of powers of ten reads as its initialiser lays it. · several parts. nothing is decoded of the empty string, by the program. No conditions but that memory has its shape. · the empty string is no code of an event, by the program: its panic is recovered. No conditions but that memory has its shape. · where a chain of events breaks off, by the program. Conditions: names and texts are short; the table of powers of ten reads as its initialiser lays it. -/
import Derived.Test.YtgalfohobgjelaaGreatDoorFo01
import Derived.Test.YtgalfohobgjelaaGreatDoorFo02
import Derived.Test.YtgalfohobgjelaaGreatDoorFo04
import Derived.Test.YtgalfohobgjelaaGreatDoorFo19
import Derived.Test.YtgalfohobgjelaaGreatDoorFo20
import Derived.Deep.DeepCutAuto
import Derived.Lib.Join
import Derived.Deep.RegionHeld3
import Derived.Deep.RegionWith
import Derived.Laws.EntriesVeiled
import Derived.Defers
import Derived.BigQuiet
import Derived.Deep.QuietTactic
namespace Go.Proofs.YtgalfohobgjelaaGreatDoor
open Go.RowKit Go.Shelf
attribute [local go_sem ↓ high] haBs1_eq
theorem growF_ok : ∀ (f : Nat) (l : List (List UInt8)) (m : Nat) (b : Bool), HsOk (growF f l m b)
  | 0, _, _, _ => fun _ h => by cases h
  | f + 1, l, m, b => by
    have h1 := growF_ok f (l.take (halfN l.length)) m b
    have h2 := growF_ok f (l.drop (halfN l.length)) (m - halfN l.length) false
    intro h hh
    unfold growF at hh
    split at hh
    · split at hh
      · cases hh
      · rw [List.mem_singleton.1 hh]; exact rootL_len _
    · split at hh
      · rcases List.mem_cons.1 hh with rfl | hh
        · exact rootL_len _
        · exact h1 h hh
      · rcases List.mem_cons.1 hh with rfl | hh
        · exact rootL_len _
        · exact h2 h hh
theorem growF_len : ∀ (f : Nat) (l : List (List UInt8)) (m : Nat) (b : Bool), (growF f l m b).length ≤ f
  | 0, _, _, _ => Nat.le_refl _
  | f + 1, l, m, b => by
    have h1 := growF_len f (l.take (halfN l.length)) m b
    have h2 := growF_len f (l.drop (halfN l.length)) (m - halfN l.length) false
    unfold growF
    split
    · split <;> simp
    · split <;> (rw [List.length_cons]; omega)
theorem txs_take (L : List ByteArray) (k : Nat) : txs (L.take k) = (txs L).take k := List.map_take
theorem txs_drop (L : List ByteArray) (k : Nat) : txs (L.drop k) = (txs L).drop k := List.map_drop
theorem own_oneH {W : World} {g base : Nat} {h : Hs} (hb : Blk W g 35 (h.map bv).toArray) (hl : h.length = 32) (hg : base ≤ g) : W.ownsRow base 35 32 (.slice (some ⟨g, 0, none⟩) 1 1) 1 (hbC h) :=
  ⟨by unfold hbC; rw [List.length_map, hl], .inr ⟨g, 1, (h.map bv).toArray, rfl, hg, hb, Nat.le_refl _, by rw [maxLen_val]; omega, by rw [List.size_toArray, List.length_map, hl], by unfold hbC; rw [show (h.map bv).toArray.toList = h.map bv from rfl]; exact List.take_of_length_le (by rw [List.length_map, hl]; omega)⟩⟩
set_option maxRecDepth 100000 in
set_option maxHeartbeats 4000000 in
theorem rgrow_any : ∀ (f : Nat) (L : List ByteArray) (m : Nat) (whole : Bool) (_ : L.length ≤ f) (_ : f ≤ 1000) (_ : ShortTs L) (_ : 1 ≤ m) (_ : m ≤ L.length) (v : Value) (w : World) (_ : StSl w v L),
    Calls Tryz.prog 51 #[v, .int .i64 (m : Int), .bool whole] w fun e w' => ∃ gv, e = .returned gv ∧ HaOwn w' w.heap.size gv (growF f (txs L) m whole).length (growF f (txs L) m whole).reverse ∧ Only NoneOf w w'
  | 0, L, m, whole, hf, _, _, h1, h2, _, _, _ => by omega
  | f + 1, L, m, whole, hf, hf2, hsh, h1, h2, v, w, hs => by
    obtain ⟨A, cap, rfl, hlc, hcm, hA⟩ := id hs
    obtain ⟨s0, hs0⟩ : ∃ s, L[0]? = some s := ⟨_, List.getElem?_eq_getElem (by omega)⟩
    obtain ⟨g, o, rfl, hc0⟩ := hA 0 s0 hs0
    have hg0 : growF (f + 1) (txs L) m whole = if m = L.length then (if whole then [] else [rootL (txs L)]) else if m ≤ halfN L.length then rootL ((txs L).drop (halfN L.length)) :: growF f ((txs L).take (halfN L.length)) m whole else rootL ((txs L).take (halfN L.length)) :: growF f ((txs L).drop (halfN L.length)) (m - halfN L.length) false := by
      rw [← txs_len L]; rfl
    by_cases he : m = L.length
    · have c1 : ((m : Int) == (L.length : Int)) = true := by simp [he]
      rw [if_pos he] at hg0
      cases whole with
      | true =>
        rw [hg0]
        clear hg0 hA hs hs0 hc0 he
        go_enter Tryz.func51, Tryz.ntmps51
        go_wp2_with fail
        go_ret
        exact ⟨_, rfl, HaOwn.nil w _, Only.refl _ _⟩
      | false =>
        rw [hg0]
        obtain ⟨a, ea⟩ : ∃ a, a = rootL (txs L) := ⟨_, rfl⟩
        have hal : a.length = 32 := by rw [ea]; exact rootL_len _
        have hroot : Calls Tryz.prog 42 #[.slice (some ⟨g, o, none⟩) L.length cap] w fun e w' => e = .returned (hv a) ∧ Only NoneOf w w' := by rw [ea]; exact rroot_any L.length L (Nat.le_refl _) (by omega) hsh _ w hs
        have hbs := haBs1_run a hal
        have HR := Lib.hid hroot
        have HAL := Lib.hid hal
        rw [← ea]
        clear hroot hal ea hg0 hA hs hs0 hc0 he
        go_enter Tryz.func51, Tryz.ntmps51
        go_wp2_with fail
        refine HR.out.mono ?_
        rintro e1 w1 ⟨rfl, ho1⟩
        have HO1 := Lib.hid ho1
        clear ho1
        go_wp2_with fail
        go_ret
        refine ⟨_, rfl, ?_, HO1.out.alloc _⟩
        have h := own_oneH (base := w.heap.size) (Blk.new w1 35 (a.map bv).toArray) HAL.out HO1.out.size
        unfold HaOwn
        simpa using h
    · have c1 : ((m : Int) == (L.length : Int)) = false := by rw [beq_eq_false_iff_ne]; omega
      rw [if_neg he] at hg0
      have hsp := halfN_spec (n := L.length) (by omega) (by omega)
      obtain ⟨k, ek⟩ : ∃ k, k = halfN L.length := ⟨_, rfl⟩
      have HH : Hid (∀ W, Calls Tryz.prog 60 #[.int .i64 (L.length : Int)] W fun e w' => e = .returned (.int .i64 (k : Int)) ∧ w' = W) := Lib.hid (fun W => by rw [ek]; exact rhalf_any L.length (by omega) (by omega) W)
      rw [← ek] at hsp hg0
      have ik0 : (0 : Int) ≤ (k : Int) := by omega
      have ik1 : (k : Int) ≤ (cap : Int) := by omega
      have ik2 : (k : Int) ≤ (L.length : Int) := by omega
      have il : (L.length : Int) ≤ (cap : Int) := by omega
      have nk : ¬ cap = k := by omega
      by_cases hk : m ≤ k
      · have c2 : decide ((m : Int) ≤ (k : Int)) = true := decide_eq_true (by omega)
        obtain ⟨LG, eLG⟩ : ∃ LG, LG = growF f (txs (L.take k)) m whole := ⟨_, rfl⟩
        obtain ⟨a, ea⟩ : ∃ a, a = rootL (txs (L.drop k)) := ⟨_, rfl⟩
        have hal : a.length = 32 := by rw [ea]; exact rootL_len _
        have hLG : HsOk LG := by rw [eLG]; exact growF_ok _ _ _ _
        have hLl : LG.length ≤ f := by rw [eLG]; exact growF_len _ _ _ _
        have hg1 : growF (f + 1) (txs L) m whole = a :: LG := by rw [hg0, if_pos hk, ea, eLG, txs_take, txs_drop, ek]
        have hrec : ∀ W, Only NoneOf w W → Calls Tryz.prog 51 #[(.slice (some ⟨g, o, none⟩) k cap), .int .i64 (m : Int), .bool whole] W fun e w' => ∃ gv, e = .returned gv ∧ HaOwn w' w.heap.size gv LG.length LG.reverse ∧ Only NoneOf W w' := fun W ho => by
          have h := rgrow_any f (L.take k) m whole (by rw [List.length_take]; omega) (by omega) (fun s h => hsh s (by first | exact List.mem_of_mem_take h | exact List.mem_of_mem_drop h)) (by omega) (by rw [List.length_take]; omega) _ W ((hs.only ho).take (by omega))
          rw [← eLG] at h
          exact h.mono (fun e w' ⟨gv, h1, h2, h3⟩ => ⟨gv, h1, own_lower h2 ho.size, h3⟩)
        have hroot : ∀ W, Only NoneOf w W → Calls Tryz.prog 42 #[(.slice (some ⟨g, o + k, none⟩) (L.length - k) (cap - k))] W fun e w' => e = .returned (hv a) ∧ Only NoneOf W w' := fun W ho => by
          rw [ea]
          exact rroot_any L.length (L.drop k) (by rw [List.length_drop]; omega) (by rw [List.length_drop]; omega) (fun s h => hsh s (by first | exact List.mem_of_mem_take h | exact List.mem_of_mem_drop h)) _ W ((hs.only ho).drop (by omega))
        obtain ⟨ie, zz, hie, hsz, hz, hzc, hby⟩ := hash_info
        have HIE := Lib.hid hie
        have HSZ := Lib.hid hsz
        have HZZ := Lib.hid hz
        have HZC := Lib.hid hzc
        have HBY := Lib.hid hby
        have hbs := haBs1_run a hal
        have GC := Lib.hid hrec
        have RC := Lib.hid hroot
        have HAL := Lib.hid hal
        have HLG := Lib.hid hLG
        rw [hg1]
        have hS0 : Only NoneOf w w.drew := (Only.refl _ _).drew
        have hx : True := trivial
        clear hrec hroot hal hLG hg0 hg1 ea eLG ek hie hsz hz hzc hby hA hs hs0 hc0 he
        go_enter Tryz.func51, Tryz.ntmps51
        go_wp2_with fail
        refine (HH.out _).mono ?_
        rintro e1 w1 ⟨rfl, rfl⟩
        go_upto_region 7 with (fail)
        go_region_held3 (fun W => Only NoneOf w1 W) (first | (with_reducible assumption) | (with_reducible exact Only.alloc (by with_reducible assumption) _))
          (first
            | (refine step_append_lies _ (by rfl) _ _ _ (by rfl) w1.heap.size 35 ie zz 32 ie.bytes Tryz.underlying59 HIE.out HZZ.out HSZ.out rfl HZC.out (by omega) gv LG.length (LG.reverse.flatMap hbC) (by rfl) (World.ownsRow.alloc hown6 _) _ 1 1 (hbC a) (by rfl) (by unfold hbC; rw [List.length_map, HAL.out]) (World.news_of_block (cs := (a.map bv).toArray) (t := 35) (fr := (0, 0)) (newH _ a)) (hbC_one a) (by omega) (by rw [maxLen_val]; omega) (by have := HBY.out; exact Nat.le_trans (Nat.mul_le_mul (show LG.length + 1 ≤ 2000 by omega) this) (by omega)) (Only.size (by with_reducible first | assumption | exact Only.alloc (by assumption) _)) _ rfl ?_; intro g8 cap8 w8 hown8 hgrow8 hat8 hlt8; have hS8 : Only NoneOf w1 w8 := (Only.alloc hS6 _).grown hgrow8 (fun j e => .inr (own_ge hown6 e).1); clear hgrow8 hat8 hlt8)
            | (go_at_call 51; (with_reducible refine (GC.out _ (by assumption)).mono ?_); rintro e5 w5 ⟨gv, rfl, hown5, ho5⟩; have hS5 := Only.trans (by with_reducible assumption) ho5)
            | (go_at_call 42; (with_reducible refine (RC.out _ (by assumption)).mono ?_); rintro e6 w6 ⟨rfl, ho6⟩; have hS6 := Only.trans (by with_reducible assumption) ho6; have hown6 := own_only hown5 ho6 (fun _ _ e => e)))
        all_goals
          have HF := Lib.hid hS8
          have HW := Lib.hid hown8
          clear hown8 hS8
          go_wp2_with fail
          go_ret
          refine ⟨_, rfl, ?_, HF.out⟩
          have h := HW.out
          unfold HaOwn
          rw [List.reverse_cons, List.flatMap_append]
          simpa using h
      · have c2 : decide ((m : Int) ≤ (k : Int)) = false := decide_eq_false (by omega)
        have kmk : (m : Int) - (k : Int) = ((m - k : Nat) : Int) := by omega

        obtain ⟨LG, eLG⟩ : ∃ LG, LG = growF f (txs (L.drop k)) (m - k) false := ⟨_, rfl⟩
        obtain ⟨a, ea⟩ : ∃ a, a = rootL (txs (L.take k)) := ⟨_, rfl⟩
        have hal : a.length = 32 := by rw [ea]; exact rootL_len _
        have hLG : HsOk LG := by rw [eLG]; exact growF_ok _ _ _ _
        have hLl : LG.length ≤ f := by rw [eLG]; exact growF_len _ _ _ _
        have hg1 : growF (f + 1) (txs L) m whole = a :: LG := by rw [hg0, if_neg hk, ea, eLG, txs_take, txs_drop, ek]
        have hrec : ∀ W, Only NoneOf w W → Calls Tryz.prog 51 #[(.slice (some ⟨g, o + k, none⟩) (L.length - k) (cap - k)), .int .i64 ((m : Int) - (k : Int)), .bool false] W fun e w' => ∃ gv, e = .returned gv ∧ HaOwn w' w.heap.size gv LG.length LG.reverse ∧ Only NoneOf W w' := fun W ho => by
          have h := rgrow_any f (L.drop k) (m - k) false (by rw [List.length_drop]; omega) (by omega) (fun s h => hsh s (by first | exact List.mem_of_mem_take h | exact List.mem_of_mem_drop h)) (by omega) (by rw [List.length_drop]; omega) _ W ((hs.only ho).drop (by omega))
          rw [← eLG, ← kmk] at h
          exact h.mono (fun e w' ⟨gv, h1, h2, h3⟩ => ⟨gv, h1, own_lower h2 ho.size, h3⟩)
        have hroot : ∀ W, Only NoneOf w W → Calls Tryz.prog 42 #[(.slice (some ⟨g, o, none⟩) k cap)] W fun e w' => e = .returned (hv a) ∧ Only NoneOf W w' := fun W ho => by
          rw [ea]
          exact rroot_any L.length (L.take k) (by rw [List.length_take]; omega) (by rw [List.length_take]; omega) (fun s h => hsh s (by first | exact List.mem_of_mem_take h | exact List.mem_of_mem_drop h)) _ W ((hs.only ho).take (by omega))
        obtain ⟨ie, zz, hie, hsz, hz, hzc, hby⟩ := hash_info
        have HIE := Lib.hid hie
        have HSZ := Lib.hid hsz
        have HZZ := Lib.hid hz
        have HZC := Lib.hid hzc
        have HBY := Lib.hid hby
        have hbs := haBs1_run a hal
        have GC := Lib.hid hrec
        have RC := Lib.hid hroot
        have HAL := Lib.hid hal
        have HLG := Lib.hid hLG
        rw [hg1]
        have hS0 : Only NoneOf w w.drew := (Only.refl _ _).drew
        have hx : IntKind.i64.wrap ((m : Int) - (k : Int)) = (m : Int) - (k : Int) := IntWalk.i64_in _ (by omega)
        clear kmk hrec hroot hal hLG hg0 hg1 ea eLG ek hie hsz hz hzc hby hA hs hs0 hc0 he
        go_enter Tryz.func51, Tryz.ntmps51
        go_wp2_with fail
        refine (HH.out _).mono ?_
        rintro e1 w1 ⟨rfl, rfl⟩
        go_upto_region 8 with (fail)
        go_region_held3 (fun W => Only NoneOf w1 W) (first | (with_reducible assumption) | (with_reducible exact Only.alloc (by with_reducible assumption) _))
          (first
            | (refine step_append_lies _ (by rfl) _ _ _ (by rfl) w1.heap.size 35 ie zz 32 ie.bytes Tryz.underlying59 HIE.out HZZ.out HSZ.out rfl HZC.out (by omega) gv LG.length (LG.reverse.flatMap hbC) (by rfl) (World.ownsRow.alloc hown6 _) _ 1 1 (hbC a) (by rfl) (by unfold hbC; rw [List.length_map, HAL.out]) (World.news_of_block (cs := (a.map bv).toArray) (t := 35) (fr := (0, 0)) (newH _ a)) (hbC_one a) (by omega) (by rw [maxLen_val]; omega) (by have := HBY.out; exact Nat.le_trans (Nat.mul_le_mul (show LG.length + 1 ≤ 2000 by omega) this) (by omega)) (Only.size (by with_reducible first | assumption | exact Only.alloc (by assumption) _)) _ rfl ?_; intro g8 cap8 w8 hown8 hgrow8 hat8 hlt8; have hS8 : Only NoneOf w1 w8 := (Only.alloc hS6 _).grown hgrow8 (fun j e => .inr (own_ge hown6 e).1); clear hgrow8 hat8 hlt8)
            | (go_at_call 51; (with_reducible refine (GC.out _ (by assumption)).mono ?_); rintro e5 w5 ⟨gv, rfl, hown5, ho5⟩; have hS5 := Only.trans (by with_reducible assumption) ho5)
            | (go_at_call 42; (with_reducible refine (RC.out _ (by assumption)).mono ?_); rintro e6 w6 ⟨rfl, ho6⟩; have hS6 := Only.trans (by with_reducible assumption) ho6; have hown6 := own_only hown5 ho6 (fun _ _ e => e)))
        all_goals
          have HF := Lib.hid hS8
          have HW := Lib.hid hown8
          clear hown8 hS8
          go_wp2_with fail
          go_ret
          refine ⟨_, rfl, ?_, HF.out⟩
          have h := HW.out
          unfold HaOwn
          rw [List.reverse_cons, List.flatMap_append]
          simpa using h
/-- A growth, the lowest hash first. -/
def growL (l : List (List UInt8)) (m : Nat) : List Hs := if m = 0 ∨ m = l.length then [] else (growF l.length l m true).reverse
set_option maxHeartbeats 2000000 in
theorem rgrowth_any (L : List ByteArray) (m : Nat) (hm : m ≤ L.length) (hl : L.length ≤ 1000) (hsh : ShortTs L) (v : Value) (w : World) (hs : StSl w v L) :
    Calls Tryz.prog 21 #[v, .int .i64 (m : Int)] w fun e w' => ∃ gv, e = .returned (.tuple #[gv, .bool true]) ∧ HaOwn w' w.heap.size gv (growL (txs L) m).length (growL (txs L) m) ∧ Only NoneOf w w' := by
  obtain ⟨A, cap, rfl, hlc, hcm, _⟩ := id hs
  have d1 : decide ((m : Int) < 0) = false := decide_eq_false (by omega)
  have d2 : decide ((L.length : Int) < (m : Int)) = false := decide_eq_false (by omega)
  by_cases h0 : m = 0
  · have hg : growL (txs L) m = [] := by unfold growL; rw [if_pos (.inl h0)]
    have d3 : ((m : Int) == 0) = true := by simp [h0]
    rw [hg]
    clear hg hs h0
    go_enter Tryz.func21, Tryz.ntmps21
    go_wp2_with fail
    go_ret2
    exact ⟨_, rfl, HaOwn.nil w _, Only.refl _ _⟩
  · have d3 : ((m : Int) == 0) = false := by rw [beq_eq_false_iff_ne]; omega
    by_cases hn : m = L.length
    · have hg : growL (txs L) m = [] := by unfold growL; rw [if_pos (.inr (by rw [txs_len]; exact hn))]
      have d4 : ((m : Int) == (L.length : Int)) = true := by simp [hn]
      rw [hg]
      clear hg hs hn
      go_enter Tryz.func21, Tryz.ntmps21
      go_wp2_with fail
      go_ret2
      exact ⟨_, rfl, HaOwn.nil w _, Only.refl _ _⟩
    · have hg : growL (txs L) m = (growF L.length (txs L) m true).reverse := by unfold growL; rw [if_neg (by rw [txs_len]; omega), txs_len]
      have d4 : ((m : Int) == (L.length : Int)) = false := by rw [beq_eq_false_iff_ne]; omega
      have hgr := rgrow_any L.length L m true (Nat.le_refl _) hl hsh (by omega) hm _ w hs
      rw [hg, List.length_reverse]
      have HG := Lib.hid hgr
      clear hg hgr hs hn
      go_enter Tryz.func21, Tryz.ntmps21
      go_wp2_with fail
      refine HG.out.mono ?_
      rintro e1 w1 ⟨gv, rfl, hown, ho⟩
      have HF := Lib.hid (And.intro hown ho)
      clear hown ho
      go_wp2_with fail
      go_ret2
      exact ⟨_, rfl, HF.out.1, HF.out.2⟩
end Go.Proofs.YtgalfohobgjelaaGreatDoor
namespace Go.Proofs.YtgalfohobgjelaaGreatDoor
open Go.RowKit Go.Shelf
attribute [local go_sem ↓ high] haLoad_eq haStore_eq
/-- Thirty-two zero bytes, as a walk spells them. -/
abbrev zeroLit : Array Value := #[.int .u8 0, .int .u8 0, .int .u8 0, .int .u8 0, .int .u8 0, .int .u8 0, .int .u8 0, .int .u8 0, .int .u8 0, .int .u8 0, .int .u8 0, .int .u8 0, .int .u8 0, .int .u8 0, .int .u8 0, .int .u8 0, .int .u8 0, .int .u8 0, .int .u8 0, .int .u8 0, .int .u8 0, .int .u8 0, .int .u8 0, .int .u8 0, .int .u8 0, .int .u8 0, .int .u8 0, .int .u8 0, .int .u8 0, .int .u8 0, .int .u8 0, .int .u8 0]
theorem fresh_at (W : World) : HaAt (W.alloc (.cells zeroLit 35)) W.heap.size zeroH := Blk.new W _ _
theorem fresh_store (W : World) (t : Hs) (ht : t.length = 32) : (haStore (.pointer (some ⟨W.heap.size, 0, none⟩)) (hv t)).run Tryz.prog (W.alloc (.cells #[.int .u8 0, .int .u8 0, .int .u8 0, .int .u8 0, .int .u8 0, .int .u8 0, .int .u8 0, .int .u8 0, .int .u8 0, .int .u8 0, .int .u8 0, .int .u8 0, .int .u8 0, .int .u8 0, .int .u8 0, .int .u8 0, .int .u8 0, .int .u8 0, .int .u8 0, .int .u8 0, .int .u8 0, .int .u8 0, .int .u8 0, .int .u8 0, .int .u8 0, .int .u8 0, .int .u8 0, .int .u8 0, .int .u8 0, .int .u8 0, .int .u8 0, .int .u8 0] 35)) = .ok () ((W.alloc (.cells zeroLit 35)).setCells W.heap.size 0 (t.map bv)) := ha_store (fresh_at W) rfl ht
end Go.Proofs.YtgalfohobgjelaaGreatDoor
namespace Go.Proofs.YtgalfohobgjelaaGreatDoor
/-- Whether a growth is right, by the reference, for sizes m < n, none of them 0. -/
def ckB (m n : Nat) (o r : Hs) (Q : List Hs) : Bool := if Q.length = manyF n m n true then ((bothF n m n true o Q.reverse).1 == o && (bothF n m n true o Q.reverse).2 == r) else false
/-- The same by the program's walk. -/
def ckW (z : Hs) (m n : Nat) (o r : Hs) (Q : List Hs) : Bool :=
  (walkF z n m n true o (Q, true)).2.2 && ((walkF z n m n true o (Q, true)).2.1.isEmpty && ((walkF z n m n true o (Q, true)).1.1 == o && (walkF z n m n true o (Q, true)).1.2 == r))
theorem ckW_eq (z : Hs) (m n : Nat) (o r : Hs) (Q : List Hs) : ckW z m n o r Q = ckB m n o r Q := by
  unfold ckW ckB
  by_cases h1 : Q.length < manyF n m n true
  · rw [walk_short z n m n true o Q h1, if_neg (by omega), Bool.false_and]
  · rw [walk_enough z n m n true o Q (by omega)]
    by_cases h2 : Q.length = manyF n m n true
    · rw [if_pos h2, ← h2, List.take_length, List.drop_length]
      rfl
    · rw [if_neg h2]
      have h3 : (Q.drop (manyF n m n true)).isEmpty = false := by
        rw [List.isEmpty_eq_false_iff]
        intro h
        have := congrArg List.length h
        rw [List.length_drop] at this
        simp at this
        omega
      rw [h3]
      simp
end Go.Proofs.YtgalfohobgjelaaGreatDoor
namespace Go.Proofs.YtgalfohobgjelaaGreatDoor
def hashE (e : Ev) : List UInt8 := shaL (evCode e)
def zeros32 : List UInt8 := List.replicate 32 0
end Go.Proofs.YtgalfohobgjelaaGreatDoor
namespace Go.Proofs.YtgalfohobgjelaaGreatDoor
open Go.ChangeShapes Go.WideShapes Go.ChangeAt Go.RowKit Go.Deep
abbrev tEv : TypeId := 79
/-- An event's cells. -/
def evC (e : Ev) : List Value := [.int .i64 e.seq, .int .i64 e.kind, .int .i64 e.who, .int .i64 e.time, .int .i64 e.bidder, .int .i64 e.lot, .int .i64 e.n, .int .i64 e.other, .string e.name, .string e.text, .int .i64 e.sx, .int .i64 e.sy] ++ (e.prev.map bv ++ [.int .i64 e.r, .int .i64 e.s])
theorem evC_len {e : Ev} (h : e.prev.length = 32) : (evC e).length = 46 := by simp [evC, h]
section
variable {H : Type} {enc : TypeId × Value → H} {w : World} {base : Nat} {spare : Nat → Bool} {held : Bool}
end
end Go.Proofs.YtgalfohobgjelaaGreatDoor
namespace Go.Proofs.YtgalfohobgjelaaGreatDoor
open Go.RowKit Go.Shelf
/-- Texts with blanks between them. -/
def joinW : List (List UInt8) → List UInt8
  | [] => []
  | x :: l => x ++ l.flatMap (fun y => 32 :: y)
/-- The lengths of texts together. -/
def lenAll (l : List (List UInt8)) : Nat := (l.map List.length).foldl (· + ·) 0
theorem foldl_add (l : List Nat) : ∀ a, l.foldl (· + ·) a = a + l.foldl (· + ·) 0 := by
  induction l with
  | nil => intro a; simp
  | cons x l ih => intro a; rw [List.foldl_cons, List.foldl_cons, ih, ih (0 + x)]; omega
theorem lenAll_cons (x : List UInt8) (l : List (List UInt8)) : lenAll (x :: l) = x.length + lenAll l := by
  unfold lenAll
  rw [List.map_cons, List.foldl_cons, foldl_add]
  omega
theorem tail_len (l : List (List UInt8)) : (l.flatMap (fun y => 32 :: y)).length = l.length + lenAll l := by
  induction l with
  | nil => rfl
  | cons x l ih => rw [List.flatMap_cons, List.length_append, ih, lenAll_cons, List.length_cons, List.length_cons]; omega
theorem joinW_len (x : List UInt8) (l : List (List UInt8)) : (joinW (x :: l)).length = lenAll (x :: l) + l.length := by
  rw [joinW, List.length_append, tail_len, lenAll_cons]; omega
end Go.Proofs.YtgalfohobgjelaaGreatDoor
namespace Go.Proofs.YtgalfohobgjelaaGreatDoor
open Go.RowKit Go.Shelf
theorem infoStr : (Tryz.prog.info? 9).map (fun i => (i.zero, i.size, i.bytes)) = some (some (.string ⟨#[]⟩), 1, 16) := by kernel_rfl
theorem numsL_join : ∀ ns : List Int, numsL ns = joinW (ns.map Lib.itoa)
  | [] => rfl
  | [n] => by simp [numsL, joinW]
  | n :: m :: l => by
    have ih := numsL_join (m :: l)
    simp only [numsL, ih, joinW, List.map_cons, List.flatMap_cons, List.cons_append]
def IntsAt (w : World) (g : Nat) (ns : List Int) : Prop := ∀ (j : Nat) (x : Int), ns[j]? = some x → w.cell? ⟨g, j, none⟩ = some (.int .i64 x)
theorem ints_of {w : World} {g : Nat} {t : TypeId} {ns : List Int} (h : Blk w g t (ns.map (fun x => Value.int .i64 x)).toArray) : IntsAt w g ns := fun j x hx => by
  rw [h.cell, List.getElem?_toArray, List.getElem?_map, hx]; rfl
theorem lenAll_itoa : ∀ ns : List Int, (∀ n ∈ ns, In n) → lenAll (ns.map Lib.itoa) ≤ 21 * ns.length
  | [], _ => by simp [lenAll]
  | n :: l, h => by
    have ih := lenAll_itoa l (fun x hx => h x (by simp [hx]))
    have h1 := itoa_len (h n (by simp)).1 (h n (by simp)).2
    rw [List.map_cons, lenAll_cons, List.length_cons]
    omega
end Go.Proofs.YtgalfohobgjelaaGreatDoor
namespace Go.Proofs.YtgalfohobgjelaaGreatDoor
open Go.RowKit Go.Shelf
def EvAt (w : World) (B : Nat) (e : Ev) : Prop := Blk w B tEv (evC e).toArray
theorem ev_cell {w : World} {B : Nat} {e : Ev} (h : EvAt w B e) (i : Nat) : w.cell? ⟨B, i, none⟩ = (evC e)[i]? := by
  rw [Blk.cell h i]; simp
theorem ev_range {w : World} {B : Nat} {e : Ev} (h : EvAt w B e) : w.rangeAt B 12 (e.prev.map bv) := fun j v hj => by
  rw [ev_cell h]
  unfold evC
  rw [List.getElem?_append_right (by simp), List.getElem?_append_left (by simp; have := (List.getElem?_eq_some_iff.1 hj).1; simpa using this)]
  simpa using hj
theorem ev_sig {w : World} {B : Nat} {e : Ev} (h : EvAt w B e) (hp : e.prev.length = 32) : w.cell? ⟨B, 44, none⟩ = some (.int .i64 e.r) ∧ w.cell? ⟨B, 45, none⟩ = some (.int .i64 e.s) := by
  rw [ev_cell h, ev_cell h]
  unfold evC
  constructor
  · rw [List.getElem?_append_right (by simp), List.getElem?_append_right (by simp [hp])]; simp [hp]
  · rw [List.getElem?_append_right (by simp), List.getElem?_append_right (by simp [hp])]; simp [hp]
def evWord : ByteArray := ⟨#[101, 118, 101, 110, 116]⟩
theorem Ev.Ok.nums_in {e : Ev} (he : e.Ok) : ∀ n ∈ e.nums, In n := by
  intro x hx
  simp only [Ev.nums, List.mem_cons, List.not_mem_nil, or_false] at hx
  rcases hx with rfl | rfl | rfl | rfl | rfl | rfl | rfl | rfl | rfl | rfl <;> first | exact he.seq | exact he.kind | exact he.who | exact he.time | exact he.bidder | exact he.lot | exact he.n | exact he.other | exact he.sx | exact he.sy
theorem numsL_len (ns : List Int) (h : ∀ n ∈ ns, In n) : (numsL ns).length ≤ 22 * ns.length := by
  rw [numsL_join]
  cases ns with
  | nil => simp [joinW]
  | cons n l =>
    have h1 := lenAll_itoa (n :: l) h
    rw [List.map_cons, joinW_len, ← List.map_cons, List.length_map, List.length_cons] at *
    omega
theorem quoL_len (s : List UInt8) (h : s.length ≤ 9223372036854775807) : (quoL s).length ≤ s.length + 22 := by
  unfold quoL
  have := itoa_len (n := (s.length : Int)) (by omega) (by omega)
  rw [List.length_append, List.length_cons]
  omega
end Go.Proofs.YtgalfohobgjelaaGreatDoor
namespace Go.Proofs.YtgalfohobgjelaaGreatDoor
open Go.RowKit Go.Shelf
theorem ev_all {w : World} {B : Nat} {e : Ev} (h : EvAt w B e) : w.rangeAt B 0 (evC e) := fun j v hj => by rw [Nat.zero_add, ev_cell h]; exact hj
/-- A whole event read, under a name that the walk does not open. -/
def evLoad (v : Value) : Sem Value := Instr.loadAt 79 v
theorem evLoad_eq (v : Value) : Instr.loadAt 79 v = evLoad v := rfl
attribute [local go_sem ↓ high] evLoad_eq
theorem ev_load {W : World} {B : Nat} {e : Ev} (h : EvAt W B e) (hp : e.prev.length = 32) : (evLoad (.pointer (some ⟨B, 0, none⟩))).run Tryz.prog W = .ok (.agg (evC e).toArray) W :=
  run_loadAt_mid W B 0 79 (evC e) _ (ev_all h) Tryz.underlying79 rfl (by rw [evC_len hp]; kernel_rfl)
end Go.Proofs.YtgalfohobgjelaaGreatDoor
namespace Go.Proofs.YtgalfohobgjelaaGreatDoor
open Go.RowKit Go.Shelf
attribute [local go_sem ↓ high] evLoad_eq
theorem evCode_len {e : Ev} (he : e.Ok) (hn : e.name.size ≤ 8796093022208) (hx : e.text.size ≤ 8796093022208) : (evCode e).length ≤ 17592186044416 + 500 := by
  have l1 := numsL_len e.nums he.nums_in
  have l2 := hexL_len e.prev
  have l3 := quoL_len e.name.data.toList (by rw [← size_list]; omega)
  have l4 := quoL_len e.text.data.toList (by rw [← size_list]; omega)
  have l0 := numsL_len [e.r, e.s] (by
    intro x hx
    simp only [List.mem_cons, List.not_mem_nil, or_false] at hx
    rcases hx with rfl | rfl
    · exact he.r
    · exact he.s)
  rw [← size_list] at l3 l4
  rw [he.prev] at l2
  have l5 : e.nums.length = 10 := rfl
  simp only [List.length_cons, List.length_nil] at l0
  unfold evCode evText
  simp only [List.length_append, List.length_cons, List.length_nil]
  omega
theorem hashE_len (e : Ev) : (hashE e).length = 32 := shaL_len _
end Go.Proofs.YtgalfohobgjelaaGreatDoor
namespace Go.Proofs.YtgalfohobgjelaaGreatDoor
open Go.RowKit Go.Shelf
/-- The blank event's cells. -/
def blank0 : Ev := ⟨0, 0, 0, 0, 0, 0, 0, 0, ⟨#[]⟩, ⟨#[]⟩, 0, 0, zeros32, 0, 0⟩
end Go.Proofs.YtgalfohobgjelaaGreatDoor
namespace Go.Proofs.YtgalfohobgjelaaGreatDoor
open Go.RowKit Go.Shelf
/-- A whole event written, under a name that the walk does not open. -/
def evStore (p v : Value) : Sem Unit := Instr.storeAt 79 p v
theorem evStore_eq (p v : Value) : Instr.storeAt 79 p v = evStore p v := rfl
attribute [local go_sem ↓ high] evStore_eq evLoad_eq
theorem ev_store {W : World} {b : Nat} {cs : List Value} (h : Blk W b tEv cs.toArray) (hl : cs.length = 46) {e : Ev} (hp : e.prev.length = 32) : (evStore (.pointer (some ⟨b, 0, none⟩)) (.agg (evC e).toArray)).run Tryz.prog W = .ok () (W.setCells b 0 (evC e)) := by
  have h1 := run_storeAt_mid (P := Tryz.prog) W b 0 79 (evC e).toArray (h.there 0 _ (by simp [evC_len hp, hl])) (by rw [List.size_toArray, evC_len hp]; kernel_rfl) (all_oneCell_toArray (fun v hv => by
    unfold evC at hv
    simp only [List.mem_append, List.mem_cons, List.not_mem_nil, or_false, List.mem_map] at hv
    rcases hv with (rfl | rfl | rfl | rfl | rfl | rfl | rfl | rfl | rfl | rfl | rfl | rfl) | ⟨x, _, rfl⟩ | rfl | rfl <;> rfl))
  exact h1
def zeroEv : Array Value := #[.int .i64 0, .int .i64 0, .int .i64 0, .int .i64 0, .int .i64 0, .int .i64 0, .int .i64 0, .int .i64 0, .string ⟨#[]⟩, .string ⟨#[]⟩, .int .i64 0, .int .i64 0, .int .u8 0, .int .u8 0, .int .u8 0, .int .u8 0, .int .u8 0, .int .u8 0, .int .u8 0, .int .u8 0, .int .u8 0, .int .u8 0, .int .u8 0, .int .u8 0, .int .u8 0, .int .u8 0, .int .u8 0, .int .u8 0, .int .u8 0, .int .u8 0, .int .u8 0, .int .u8 0, .int .u8 0, .int .u8 0, .int .u8 0, .int .u8 0, .int .u8 0, .int .u8 0, .int .u8 0, .int .u8 0, .int .u8 0, .int .u8 0, .int .u8 0, .int .u8 0, .int .i64 0, .int .i64 0]
theorem results_two {fn : Func} {p q : Tmp} {t u : TypeId} (h : fn.results = #[.cell p t, .cell q u]) (tmps : Array Value) (P : Program) (w : World) {a b : Addr} {va vb : Value} (hp : tmps.getD p undef = .pointer (some a)) (hq : tmps.getD q undef = .pointer (some b)) (h1 : (loadVar t a).run P w = .ok va w) (h2 : (loadVar u b).run P w = .ok vb w) : (results fn tmps).run P w = .ok (.tuple #[va, vb]) w := by
  simp only [results, h]
  rw [Array.getD_eq_getD_getElem?] at hp hq
  simp [Sem.run_bind, Result.andThen, hp, hq, asAddr, h1, h2]
theorem setCells_own {w : World} {b : Nat} {t : TypeId} {cs : List Value} (h : Blk w b t cs.toArray) {ds : List Value} (hl : ds.length = cs.length) : Blk (w.setCells b 0 ds) b t ds.toArray := h.filled ds hl
end Go.Proofs.YtgalfohobgjelaaGreatDoor
namespace Go.Proofs.YtgalfohobgjelaaGreatDoor
open Go.RowKit Go.Shelf
/-- A slice that reads as these events. -/
def EvSl (w : World) (v : Value) (L : List Ev) : Prop :=
  ∃ A cap, v = .slice A L.length cap ∧ L.length ≤ cap ∧ cap ≤ 9223372036854775807 ∧ ∀ (i : Nat) (e : Ev), L[i]? = some e → ∃ g o, A = some ⟨g, o, none⟩ ∧ g < w.heap.size ∧ w.rangeAt g (o + i * 46) (evC e)
theorem range_only {w w' : World} {g o : Nat} {cs : List Value} (h : w.rangeAt g o cs) (ho : Only NoneOf w w') : w'.rangeAt g o cs := fun j v hj => ho.cell_some (h j v hj) (fun e => e)
/-- A hash read, under a name that the walk does not open. -/
def hLoad (v : Value) : Sem Value := Instr.loadAt 35 v
theorem hLoad_eq (v : Value) : Instr.loadAt 35 v = hLoad v := rfl
def hStore (p v : Value) : Sem Unit := Instr.storeAt 35 p v
theorem hStore_eq (p v : Value) : Instr.storeAt 35 p v = hStore p v := rfl
attribute [local go_sem ↓ high] evStore_eq evLoad_eq hLoad_eq hStore_eq
theorem h_load {W : World} {g o : Nat} {l : List UInt8} (h : W.rangeAt g o (l.map bv)) (hl : l.length = 32) : (hLoad (.pointer (some ⟨g, o, none⟩))).run Tryz.prog W = .ok (.agg (l.map bv).toArray) W :=
  run_loadAt_mid W g o 35 (l.map bv) _ h Tryz.underlying35 rfl (by rw [List.length_map, hl]; kernel_rfl)
theorem h_store {W : World} {g : Nat} {l m : List UInt8} (h : Blk W g 35 (l.map bv).toArray) (hl : l.length = 32) (hm : m.length = 32) : (hStore (.pointer (some ⟨g, 0, none⟩)) (.agg (m.map bv).toArray)).run Tryz.prog W = .ok () (W.setCells g 0 (m.map bv)) :=
  run_storeAt_mid (P := Tryz.prog) W g 0 35 (m.map bv).toArray (h.there 0 _ (by simp [hl, hm])) (by rw [List.size_toArray, List.length_map, hm]; kernel_rfl) (all_oneCell_toArray (bvs_one _))
theorem ev_load_at {W : World} {g o : Nat} {e : Ev} (h : W.rangeAt g o (evC e)) (hp : e.prev.length = 32) : (evLoad (.pointer (some ⟨g, o, none⟩))).run Tryz.prog W = .ok (.agg (evC e).toArray) W :=
  run_loadAt_mid W g o 79 (evC e) _ h Tryz.underlying79 rfl (by rw [evC_len hp]; kernel_rfl)
theorem neq_hash (xs ys : List UInt8) (hx : xs.length = 32) (hy : ys.length = 32) (w : World) : (binOp .neq 35 (.agg (xs.map bv).toArray) (.agg (ys.map bv).toArray)).run Tryz.prog w = .ok (.bool (!(xs == ys))) w := by
  have h : (Op.equalIn 10000 35 (.agg (xs.map bv).toArray) (.agg (ys.map bv).toArray)).run Tryz.prog w = .ok (xs == ys) w := run_equalIn_bytes w 9998 35 5 32 Tryz.underlying35 Tryz.underlying5 size_u8 xs ys hx hy
  rw [run_neq_struct, h]
  rfl
end Go.Proofs.YtgalfohobgjelaaGreatDoor
