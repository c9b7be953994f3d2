/- What is proved here: several parts. growths and paths, by the reference. Conditions: there are few texts, and they are short. · what a check of growth finds, in plain Lean: the program's way and the reference's are one. No conditions. -/
import Derived.Test.YtgalfohobgjelaaGreatDoorNi21
namespace Go.Proofs.YtgalfohobgjelaaGreatDoor
open Go.RowKit Go.Shelf
attribute [local go_sem ↓ high] haBs1_eq
theorem growF_ok : ∀ (f : Nat) (l : List (List UInt8)) (m : Nat) (b : Bool), HsOk (growF f l m b)
  | 0, _, _, _ => fun _ h => by cases h
  | f + 1, l, m, b => by
    have h1 := growF_ok f (l.take (halfN l.length)) m b
    have h2 := growF_ok f (l.drop (halfN l.length)) (m - halfN l.length) false
    intro h hh
    unfold growF at hh
    split at hh
    · split at hh
      · cases hh
      · rw [List.mem_singleton.1 hh]; exact rootL_len _
    · split at hh
      · rcases List.mem_cons.1 hh with rfl | hh
        · exact rootL_len _
        · exact h1 h hh
      · rcases List.mem_cons.1 hh with rfl | hh
        · exact rootL_len _
        · exact h2 h hh
theorem growF_len : ∀ (f : Nat) (l : List (List UInt8)) (m : Nat) (b : Bool), (growF f l m b).length ≤ f
  | 0, _, _, _ => Nat.le_refl _
  | f + 1, l, m, b => by
    have h1 := growF_len f (l.take (halfN l.length)) m b
    have h2 := growF_len f (l.drop (halfN l.length)) (m - halfN l.length) false
    unfold growF
    split
    · split <;> simp
    · split <;> (rw [List.length_cons]; omega)
theorem txs_take (L : List ByteArray) (k : Nat) : txs (L.take k) = (txs L).take k := List.map_take
theorem txs_drop (L : List ByteArray) (k : Nat) : txs (L.drop k) = (txs L).drop k := List.map_drop
theorem own_oneH {W : World} {g base : Nat} {h : Hs} (hb : Blk W g 35 (h.map bv).toArray) (hl : h.length = 32) (hg : base ≤ g) : W.ownsRow base 35 32 (.slice (some ⟨g, 0, none⟩) 1 1) 1 (hbC h) :=
  ⟨by unfold hbC; rw [List.length_map, hl], .inr ⟨g, 1, (h.map bv).toArray, rfl, hg, hb, Nat.le_refl _, by rw [maxLen_val]; omega, by rw [List.size_toArray, List.length_map, hl], by unfold hbC; rw [show (h.map bv).toArray.toList = h.map bv from rfl]; exact List.take_of_length_le (by rw [List.length_map, hl]; omega)⟩⟩
set_option maxRecDepth 100000 in
set_option maxHeartbeats 4000000 in
theorem rgrow_any : ∀ (f : Nat) (L : List ByteArray) (m : Nat) (whole : Bool) (_ : L.length ≤ f) (_ : f ≤ 1000) (_ : ShortTs L) (_ : 1 ≤ m) (_ : m ≤ L.length) (v : Value) (w : World) (_ : StSl w v L),
    Calls Tryz.prog 51 #[v, .int .i64 (m : Int), .bool whole] w fun e w' => ∃ gv, e = .returned gv ∧ HaOwn w' w.heap.size gv (growF f (txs L) m whole).length (growF f (txs L) m whole).reverse ∧ Only NoneOf w w'
  | 0, L, m, whole, hf, _, _, h1, h2, _, _, _ => by omega
  | f + 1, L, m, whole, hf, hf2, hsh, h1, h2, v, w, hs => by
    obtain ⟨A, cap, rfl, hlc, hcm, hA⟩ := id hs
    obtain ⟨s0, hs0⟩ : ∃ s, L[0]? = some s := ⟨_, List.getElem?_eq_getElem (by omega)⟩
    obtain ⟨g, o, rfl, hc0⟩ := hA 0 s0 hs0
    have hg0 : growF (f + 1) (txs L) m whole = if m = L.length then (if whole then [] else [rootL (txs L)]) else if m ≤ halfN L.length then rootL ((txs L).drop (halfN L.length)) :: growF f ((txs L).take (halfN L.length)) m whole else rootL ((txs L).take (halfN L.length)) :: growF f ((txs L).drop (halfN L.length)) (m - halfN L.length) false := by
      rw [← txs_len L]; rfl
    by_cases he : m = L.length
    · have c1 : ((m : Int) == (L.length : Int)) = true := by simp [he]
      rw [if_pos he] at hg0
      cases whole with
      | true =>
        rw [hg0]
        clear hg0 hA hs hs0 hc0 he
        go_enter Tryz.func51, Tryz.ntmps51
        go_wp2_with fail
        go_ret
        exact ⟨_, rfl, HaOwn.nil w _, Only.refl _ _⟩
      | false =>
        rw [hg0]
        obtain ⟨a, ea⟩ : ∃ a, a = rootL (txs L) := ⟨_, rfl⟩
        have hal : a.length = 32 := by rw [ea]; exact rootL_len _
        have hroot : Calls Tryz.prog 42 #[.slice (some ⟨g, o, none⟩) L.length cap] w fun e w' => e = .returned (hv a) ∧ Only NoneOf w w' := by rw [ea]; exact rroot_any L.length L (Nat.le_refl _) (by omega) hsh _ w hs
        have hbs := haBs1_run a hal
        have HR := Lib.hid hroot
        have HAL := Lib.hid hal
        rw [← ea]
        clear hroot hal ea hg0 hA hs hs0 hc0 he
        go_enter Tryz.func51, Tryz.ntmps51
        go_wp2_with fail
        refine HR.out.mono ?_
        rintro e1 w1 ⟨rfl, ho1⟩
        have HO1 := Lib.hid ho1
        clear ho1
        go_wp2_with fail
        go_ret
        refine ⟨_, rfl, ?_, HO1.out.alloc _⟩
        have h := own_oneH (base := w.heap.size) (Blk.new w1 35 (a.map bv).toArray) HAL.out HO1.out.size
        unfold HaOwn
        simpa using h
    · have c1 : ((m : Int) == (L.length : Int)) = false := by rw [beq_eq_false_iff_ne]; omega
      rw [if_neg he] at hg0
      have hsp := halfN_spec (n := L.length) (by omega) (by omega)
      obtain ⟨k, ek⟩ : ∃ k, k = halfN L.length := ⟨_, rfl⟩
      have HH : Hid (∀ W, Calls Tryz.prog 60 #[.int .i64 (L.length : Int)] W fun e w' => e = .returned (.int .i64 (k : Int)) ∧ w' = W) := Lib.hid (fun W => by rw [ek]; exact rhalf_any L.length (by omega) (by omega) W)
      rw [← ek] at hsp hg0
      have ik0 : (0 : Int) ≤ (k : Int) := by omega
      have ik1 : (k : Int) ≤ (cap : Int) := by omega
      have ik2 : (k : Int) ≤ (L.length : Int) := by omega
      have il : (L.length : Int) ≤ (cap : Int) := by omega
      have nk : ¬ cap = k := by omega
      by_cases hk : m ≤ k
      · have c2 : decide ((m : Int) ≤ (k : Int)) = true := decide_eq_true (by omega)
        obtain ⟨LG, eLG⟩ : ∃ LG, LG = growF f (txs (L.take k)) m whole := ⟨_, rfl⟩
        obtain ⟨a, ea⟩ : ∃ a, a = rootL (txs (L.drop k)) := ⟨_, rfl⟩
        have hal : a.length = 32 := by rw [ea]; exact rootL_len _
        have hLG : HsOk LG := by rw [eLG]; exact growF_ok _ _ _ _
        have hLl : LG.length ≤ f := by rw [eLG]; exact growF_len _ _ _ _
        have hg1 : growF (f + 1) (txs L) m whole = a :: LG := by rw [hg0, if_pos hk, ea, eLG, txs_take, txs_drop, ek]
        have hrec : ∀ W, Only NoneOf w W → Calls Tryz.prog 51 #[(.slice (some ⟨g, o, none⟩) k cap), .int .i64 (m : Int), .bool whole] W fun e w' => ∃ gv, e = .returned gv ∧ HaOwn w' w.heap.size gv LG.length LG.reverse ∧ Only NoneOf W w' := fun W ho => by
          have h := rgrow_any f (L.take k) m whole (by rw [List.length_take]; omega) (by omega) (fun s h => hsh s (by first | exact List.mem_of_mem_take h | exact List.mem_of_mem_drop h)) (by omega) (by rw [List.length_take]; omega) _ W ((hs.only ho).take (by omega))
          rw [← eLG] at h
          exact h.mono (fun e w' ⟨gv, h1, h2, h3⟩ => ⟨gv, h1, own_lower h2 ho.size, h3⟩)
        have hroot : ∀ W, Only NoneOf w W → Calls Tryz.prog 42 #[(.slice (some ⟨g, o + k, none⟩) (L.length - k) (cap - k))] W fun e w' => e = .returned (hv a) ∧ Only NoneOf W w' := fun W ho => by
          rw [ea]
          exact rroot_any L.length (L.drop k) (by rw [List.length_drop]; omega) (by rw [List.length_drop]; omega) (fun s h => hsh s (by first | exact List.mem_of_mem_take h | exact List.mem_of_mem_drop h)) _ W ((hs.only ho).drop (by omega))
        obtain ⟨ie, zz, hie, hsz, hz, hzc, hby⟩ := hash_info
        have HIE := Lib.hid hie
        have HSZ := Lib.hid hsz
        have HZZ := Lib.hid hz
        have HZC := Lib.hid hzc
        have HBY := Lib.hid hby
        have hbs := haBs1_run a hal
        have GC := Lib.hid hrec
        have RC := Lib.hid hroot
        have HAL := Lib.hid hal
        have HLG := Lib.hid hLG
        rw [hg1]
        have hS0 : Only NoneOf w w.drew := (Only.refl _ _).drew
        have hx : True := trivial
        clear hrec hroot hal hLG hg0 hg1 ea eLG ek hie hsz hz hzc hby hA hs hs0 hc0 he
        go_enter Tryz.func51, Tryz.ntmps51
        go_wp2_with fail
        refine (HH.out _).mono ?_
        rintro e1 w1 ⟨rfl, rfl⟩
        go_upto_region 7 with (fail)
        go_region_held3 (fun W => Only NoneOf w1 W) (first | (with_reducible assumption) | (with_reducible exact Only.alloc (by with_reducible assumption) _))
          (first
            | (refine step_append_lies _ (by rfl) _ _ _ (by rfl) w1.heap.size 35 ie zz 32 ie.bytes Tryz.underlying59 HIE.out HZZ.out HSZ.out rfl HZC.out (by omega) gv LG.length (LG.reverse.flatMap hbC) (by rfl) (World.ownsRow.alloc hown6 _) _ 1 1 (hbC a) (by rfl) (by unfold hbC; rw [List.length_map, HAL.out]) (World.news_of_block (cs := (a.map bv).toArray) (t := 35) (fr := (0, 0)) (newH _ a)) (hbC_one a) (by omega) (by rw [maxLen_val]; omega) (by have := HBY.out; exact Nat.le_trans (Nat.mul_le_mul (show LG.length + 1 ≤ 2000 by omega) this) (by omega)) (Only.size (by with_reducible first | assumption | exact Only.alloc (by assumption) _)) _ rfl ?_; intro g8 cap8 w8 hown8 hgrow8 hat8 hlt8; have hS8 : Only NoneOf w1 w8 := (Only.alloc hS6 _).grown hgrow8 (fun j e => .inr (own_ge hown6 e).1); clear hgrow8 hat8 hlt8)
            | (go_at_call 51; (with_reducible refine (GC.out _ (by assumption)).mono ?_); rintro e5 w5 ⟨gv, rfl, hown5, ho5⟩; have hS5 := Only.trans (by with_reducible assumption) ho5)
            | (go_at_call 42; (with_reducible refine (RC.out _ (by assumption)).mono ?_); rintro e6 w6 ⟨rfl, ho6⟩; have hS6 := Only.trans (by with_reducible assumption) ho6; have hown6 := own_only hown5 ho6 (fun _ _ e => e)))
        all_goals
          have HF := Lib.hid hS8
          have HW := Lib.hid hown8
          clear hown8 hS8
          go_wp2_with fail
          go_ret
          refine ⟨_, rfl, ?_, HF.out⟩
          have h := HW.out
          unfold HaOwn
          rw [List.reverse_cons, List.flatMap_append]
          simpa using h
      · have c2 : decide ((m : Int) ≤ (k : Int)) = false := decide_eq_false (by omega)
        have kmk : (m : Int) - (k : Int) = ((m - k : Nat) : Int) := by omega

        obtain ⟨LG, eLG⟩ : ∃ LG, LG = growF f (txs (L.drop k)) (m - k) false := ⟨_, rfl⟩
        obtain ⟨a, ea⟩ : ∃ a, a = rootL (txs (L.take k)) := ⟨_, rfl⟩
        have hal : a.length = 32 := by rw [ea]; exact rootL_len _
        have hLG : HsOk LG := by rw [eLG]; exact growF_ok _ _ _ _
        have hLl : LG.length ≤ f := by rw [eLG]; exact growF_len _ _ _ _
        have hg1 : growF (f + 1) (txs L) m whole = a :: LG := by rw [hg0, if_neg hk, ea, eLG, txs_take, txs_drop, ek]
        have hrec : ∀ W, Only NoneOf w W → Calls Tryz.prog 51 #[(.slice (some ⟨g, o + k, none⟩) (L.length - k) (cap - k)), .int .i64 ((m : Int) - (k : Int)), .bool false] W fun e w' => ∃ gv, e = .returned gv ∧ HaOwn w' w.heap.size gv LG.length LG.reverse ∧ Only NoneOf W w' := fun W ho => by
          have h := rgrow_any f (L.drop k) (m - k) false (by rw [List.length_drop]; omega) (by omega) (fun s h => hsh s (by first | exact List.mem_of_mem_take h | exact List.mem_of_mem_drop h)) (by omega) (by rw [List.length_drop]; omega) _ W ((hs.only ho).drop (by omega))
          rw [← eLG, ← kmk] at h
          exact h.mono (fun e w' ⟨gv, h1, h2, h3⟩ => ⟨gv, h1, own_lower h2 ho.size, h3⟩)
        have hroot : ∀ W, Only NoneOf w W → Calls Tryz.prog 42 #[(.slice (some ⟨g, o, none⟩) k cap)] W fun e w' => e = .returned (hv a) ∧ Only NoneOf W w' := fun W ho => by
          rw [ea]
          exact rroot_any L.length (L.take k) (by rw [List.length_take]; omega) (by rw [List.length_take]; omega) (fun s h => hsh s (by first | exact List.mem_of_mem_take h | exact List.mem_of_mem_drop h)) _ W ((hs.only ho).take (by omega))
        obtain ⟨ie, zz, hie, hsz, hz, hzc, hby⟩ := hash_info
        have HIE := Lib.hid hie
        have HSZ := Lib.hid hsz
        have HZZ := Lib.hid hz
        have HZC := Lib.hid hzc
        have HBY := Lib.hid hby
        have hbs := haBs1_run a hal
        have GC := Lib.hid hrec
        have RC := Lib.hid hroot
        have HAL := Lib.hid hal
        have HLG := Lib.hid hLG
        rw [hg1]
        have hS0 : Only NoneOf w w.drew := (Only.refl _ _).drew
        have hx : IntKind.i64.wrap ((m : Int) - (k : Int)) = (m : Int) - (k : Int) := IntWalk.i64_in _ (by omega)
        clear kmk hrec hroot hal hLG hg0 hg1 ea eLG ek hie hsz hz hzc hby hA hs hs0 hc0 he
        go_enter Tryz.func51, Tryz.ntmps51
        go_wp2_with fail
        refine (HH.out _).mono ?_
        rintro e1 w1 ⟨rfl, rfl⟩
        go_upto_region 8 with (fail)
        go_region_held3 (fun W => Only NoneOf w1 W) (first | (with_reducible assumption) | (with_reducible exact Only.alloc (by with_reducible assumption) _))
          (first
            | (refine step_append_lies _ (by rfl) _ _ _ (by rfl) w1.heap.size 35 ie zz 32 ie.bytes Tryz.underlying59 HIE.out HZZ.out HSZ.out rfl HZC.out (by omega) gv LG.length (LG.reverse.flatMap hbC) (by rfl) (World.ownsRow.alloc hown6 _) _ 1 1 (hbC a) (by rfl) (by unfold hbC; rw [List.length_map, HAL.out]) (World.news_of_block (cs := (a.map bv).toArray) (t := 35) (fr := (0, 0)) (newH _ a)) (hbC_one a) (by omega) (by rw [maxLen_val]; omega) (by have := HBY.out; exact Nat.le_trans (Nat.mul_le_mul (show LG.length + 1 ≤ 2000 by omega) this) (by omega)) (Only.size (by with_reducible first | assumption | exact Only.alloc (by assumption) _)) _ rfl ?_; intro g8 cap8 w8 hown8 hgrow8 hat8 hlt8; have hS8 : Only NoneOf w1 w8 := (Only.alloc hS6 _).grown hgrow8 (fun j e => .inr (own_ge hown6 e).1); clear hgrow8 hat8 hlt8)
            | (go_at_call 51; (with_reducible refine (GC.out _ (by assumption)).mono ?_); rintro e5 w5 ⟨gv, rfl, hown5, ho5⟩; have hS5 := Only.trans (by with_reducible assumption) ho5)
            | (go_at_call 42; (with_reducible refine (RC.out _ (by assumption)).mono ?_); rintro e6 w6 ⟨rfl, ho6⟩; have hS6 := Only.trans (by with_reducible assumption) ho6; have hown6 := own_only hown5 ho6 (fun _ _ e => e)))
        all_goals
          have HF := Lib.hid hS8
          have HW := Lib.hid hown8
          clear hown8 hS8
          go_wp2_with fail
          go_ret
          refine ⟨_, rfl, ?_, HF.out⟩
          have h := HW.out
          unfold HaOwn
          rw [List.reverse_cons, List.flatMap_append]
          simpa using h
/-- A growth, the lowest hash first. -/
def growL (l : List (List UInt8)) (m : Nat) : List Hs := if m = 0 ∨ m = l.length then [] else (growF l.length l m true).reverse
set_option maxHeartbeats 2000000 in
theorem rgrowth_any (L : List ByteArray) (m : Nat) (hm : m ≤ L.length) (hl : L.length ≤ 1000) (hsh : ShortTs L) (v : Value) (w : World) (hs : StSl w v L) :
    Calls Tryz.prog 21 #[v, .int .i64 (m : Int)] w fun e w' => ∃ gv, e = .returned (.tuple #[gv, .bool true]) ∧ HaOwn w' w.heap.size gv (growL (txs L) m).length (growL (txs L) m) ∧ Only NoneOf w w' := by
  obtain ⟨A, cap, rfl, hlc, hcm, _⟩ := id hs
  have d1 : decide ((m : Int) < 0) = false := decide_eq_false (by omega)
  have d2 : decide ((L.length : Int) < (m : Int)) = false := decide_eq_false (by omega)
  by_cases h0 : m = 0
  · have hg : growL (txs L) m = [] := by unfold growL; rw [if_pos (.inl h0)]
    have d3 : ((m : Int) == 0) = true := by simp [h0]
    rw [hg]
    clear hg hs h0
    go_enter Tryz.func21, Tryz.ntmps21
    go_wp2_with fail
    go_ret2
    exact ⟨_, rfl, HaOwn.nil w _, Only.refl _ _⟩
  · have d3 : ((m : Int) == 0) = false := by rw [beq_eq_false_iff_ne]; omega
    by_cases hn : m = L.length
    · have hg : growL (txs L) m = [] := by unfold growL; rw [if_pos (.inr (by rw [txs_len]; exact hn))]
      have d4 : ((m : Int) == (L.length : Int)) = true := by simp [hn]
      rw [hg]
      clear hg hs hn
      go_enter Tryz.func21, Tryz.ntmps21
      go_wp2_with fail
      go_ret2
      exact ⟨_, rfl, HaOwn.nil w _, Only.refl _ _⟩
    · have hg : growL (txs L) m = (growF L.length (txs L) m true).reverse := by unfold growL; rw [if_neg (by rw [txs_len]; omega), txs_len]
      have d4 : ((m : Int) == (L.length : Int)) = false := by rw [beq_eq_false_iff_ne]; omega
      have hgr := rgrow_any L.length L m true (Nat.le_refl _) hl hsh (by omega) hm _ w hs
      rw [hg, List.length_reverse]
      have HG := Lib.hid hgr
      clear hg hgr hs hn
      go_enter Tryz.func21, Tryz.ntmps21
      go_wp2_with fail
      refine HG.out.mono ?_
      rintro e1 w1 ⟨gv, rfl, hown, ho⟩
      have HF := Lib.hid (And.intro hown ho)
      clear hown ho
      go_wp2_with fail
      go_ret2
      exact ⟨_, rfl, HF.out.1, HF.out.2⟩
end Go.Proofs.YtgalfohobgjelaaGreatDoor
namespace Go.Proofs.YtgalfohobgjelaaGreatDoor
open Go.RowKit Go.Shelf
attribute [local go_sem ↓ high] haLoad_eq haStore_eq
/-- Thirty-two zero bytes, as a walk spells them. -/
abbrev zeroLit : Array Value := #[.int .u8 0, .int .u8 0, .int .u8 0, .int .u8 0, .int .u8 0, .int .u8 0, .int .u8 0, .int .u8 0, .int .u8 0, .int .u8 0, .int .u8 0, .int .u8 0, .int .u8 0, .int .u8 0, .int .u8 0, .int .u8 0, .int .u8 0, .int .u8 0, .int .u8 0, .int .u8 0, .int .u8 0, .int .u8 0, .int .u8 0, .int .u8 0, .int .u8 0, .int .u8 0, .int .u8 0, .int .u8 0, .int .u8 0, .int .u8 0, .int .u8 0, .int .u8 0]
theorem fresh_at (W : World) : HaAt (W.alloc (.cells zeroLit 35)) W.heap.size zeroH := Blk.new W _ _
theorem fresh_store (W : World) (t : Hs) (ht : t.length = 32) : (haStore (.pointer (some ⟨W.heap.size, 0, none⟩)) (hv t)).run Tryz.prog (W.alloc (.cells #[.int .u8 0, .int .u8 0, .int .u8 0, .int .u8 0, .int .u8 0, .int .u8 0, .int .u8 0, .int .u8 0, .int .u8 0, .int .u8 0, .int .u8 0, .int .u8 0, .int .u8 0, .int .u8 0, .int .u8 0, .int .u8 0, .int .u8 0, .int .u8 0, .int .u8 0, .int .u8 0, .int .u8 0, .int .u8 0, .int .u8 0, .int .u8 0, .int .u8 0, .int .u8 0, .int .u8 0, .int .u8 0, .int .u8 0, .int .u8 0, .int .u8 0, .int .u8 0] 35)) = .ok () ((W.alloc (.cells zeroLit 35)).setCells W.heap.size 0 (t.map bv)) := ha_store (fresh_at W) rfl ht
end Go.Proofs.YtgalfohobgjelaaGreatDoor
namespace Go.Proofs.YtgalfohobgjelaaGreatDoor
/-- Whether a growth is right, by the reference, for sizes m < n, none of them 0. -/
def ckB (m n : Nat) (o r : Hs) (Q : List Hs) : Bool := if Q.length = manyF n m n true then ((bothF n m n true o Q.reverse).1 == o && (bothF n m n true o Q.reverse).2 == r) else false
/-- The same by the program's walk. -/
def ckW (z : Hs) (m n : Nat) (o r : Hs) (Q : List Hs) : Bool :=
  (walkF z n m n true o (Q, true)).2.2 && ((walkF z n m n true o (Q, true)).2.1.isEmpty && ((walkF z n m n true o (Q, true)).1.1 == o && (walkF z n m n true o (Q, true)).1.2 == r))
theorem ckW_eq (z : Hs) (m n : Nat) (o r : Hs) (Q : List Hs) : ckW z m n o r Q = ckB m n o r Q := by
  unfold ckW ckB
  by_cases h1 : Q.length < manyF n m n true
  · rw [walk_short z n m n true o Q h1, if_neg (by omega), Bool.false_and]
  · rw [walk_enough z n m n true o Q (by omega)]
    by_cases h2 : Q.length = manyF n m n true
    · rw [if_pos h2, ← h2, List.take_length, List.drop_length]
      rfl
    · rw [if_neg h2]
      have h3 : (Q.drop (manyF n m n true)).isEmpty = false := by
        rw [List.isEmpty_eq_false_iff]
        intro h
        have := congrArg List.length h
        rw [List.length_drop] at this
        simp at this
        omega
      rw [h3]
      simp
end Go.Proofs.YtgalfohobgjelaaGreatDoor
