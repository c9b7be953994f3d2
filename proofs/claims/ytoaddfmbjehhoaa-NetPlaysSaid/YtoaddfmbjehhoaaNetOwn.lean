/- What is proved here: neither changes of the script that was passed, nor of another net, change a net. Conditions: the script that comes in reads as a list. -/
import Derived.Test.YtoaddfmbjehhoaaNetK
import Derived.Laws.AppendOwnNone
namespace Go.Proofs.Ytoaddfmbjehhoaa
open Go.RowKit

def owM (S : List Tr) : Nat → List Pcl
  | 0 => []
  | k + 1 => sendM 1 S k k k 0 ⟨#[]⟩ (owM S k)
theorem owM_len (S : List Tr) (k : Nat) : (owM S k).length ≤ 8 * k := by
  induction k with
  | zero => simp [owM]
  | succ k ih => unfold owM; have := sendM_len 1 S k k k 0 ⟨#[]⟩ (owM S k); omega
/-- append(own, own2...), the source nil or not. -/
theorem wpList_append_src {P : Program} {w : World} {ops : Array Oper} {rest : List Oper} {o : Oper} {a : Act} {Q : Exit → Act → World → Prop} (hgd : o.guard = none) (s x : Operand) (t : TypeId)
    (ho : o.op = .call { callee := .builtin .append, args := #[s, x], argTypes := #[t, t] })
    (base : Nat) (e : TypeId) (i : TypeInfo) (z : Value) (size bytes : Nat) (ht : P.underlying t = some (.slice e)) (hi : P.info? e = some i) (hz : i.zero = some z)
    (hsize : i.size = size) (hby : i.bytes = bytes) (hzs : z.cells.size = size) (hsz : 0 < size)
    (v : Value) (n : Nat) (xs : List Value) (hs : a.eval s = v) (hown : w.ownsRow base e size v n xs)
    (base' : Nat) (sv : Value) (m : Nat) (news : List Value) (hx : a.eval x = sv) (hsrc : w.ownsRow base' e size sv m news) (h1 : ∀ u ∈ news, u.oneCell' = true)
    (h63 : n + m ≤ maxLen) (hbytes : (n + m) * bytes ≤ 140737488355328) (hbase : base ≤ w.heap.size)
    (h : ∀ v' w', w'.ownsRow base e size v' (n + m) (xs ++ news) → w.grownBy w' v.ownBlock → wpList P ops Q rest (a.put o.dst v') w') : wpList P ops Q (o :: rest) a w := by
  rcases hsrc.2 with ⟨rfl, rfl⟩ | ⟨g, cap, cur, rfl, _⟩
  · have hn : news = [] := List.eq_nil_of_length_eq_zero (by simpa using hsrc.1)
    subst hn
    exact wpList_append_own_none hgd s x t ho base e i size ht hi v n xs hs hown hx (h v w (by simpa using hown) (World.grownBy.refl w _))
  · exact wpList_append_own w hgd s x t ho base e i z size bytes ht hi hz hsize hby hzs hsz v n xs hs hown ⟨g, 0, none⟩ m cap news hx hsrc.1 (own_take_cells hsrc) h1 h63 hbytes hbase (fun v' w' h2 h3 _ => h v' w' h2 h3)

theorem Pair.low {B b1 b2 : Nat} {n1 n2 : Int} {S1 S2 : List Tr} {M1 M2 : List Pcl} {k1 k2 : Nat} {W W' : World} (h : Pair B b1 n1 S1 M1 k1 b2 n2 S2 M2 k2 W) (ho : Only (fun i => i < B) W W') : Pair B b1 n1 S1 M1 k1 b2 n2 S2 M2 k2 W' := by
  obtain ⟨s1, w1, s2, w2, h1, h2, h3, h4⟩ := h
  obtain ⟨L1, _, hr1⟩ := h1.waits
  obtain ⟨L2, _, hr2⟩ := h2.waits
  refine ⟨s1, w1, s2, w2, h1.only ho ?_ ?_ ?_, h2.only ho ?_ ?_ ?_, h3, h4⟩
  · have := h1.1; omega
  · intro g hg; have := (h1.2.2.1.lt g hg).1; omega
  · intro g hg; have := (hr1.lt g hg).1; omega
  · have := h2.1; omega
  · intro g hg; have := (h2.2.2.1.lt g hg).1; omega
  · intro g hg; have := (hr2.lt g hg).1; omega
theorem Pair.base {B B' b1 b2 : Nat} {n1 n2 : Int} {S1 S2 : List Tr} {M1 M2 : List Pcl} {k1 k2 : Nat} {W : World} (h : Pair B b1 n1 S1 M1 k1 b2 n2 S2 M2 k2 W) (hB : B' ≤ B) : Pair B' b1 n1 S1 M1 k1 b2 n2 S2 M2 k2 W := by
  obtain ⟨s1, w1, s2, w2, h1, h2, h3⟩ := h
  exact ⟨s1, w1, s2, w2, h1.base hB, h2.base hB, h3⟩
def OwMake (w : World) (B b1 b2 : Nat) (S : List Tr) (v : Value) (wr : World) : Prop :=
  Pair B b1 1 S [] 0 b2 1 S [] 0 wr ∧ Below w.heap.size w wr ∧ B ≤ wr.heap.size ∧ ∃ S' : List Tr, S'.length = S.length ∧ wr.ownsRow w.heap.size 42 3 v S.length (S'.flatMap tc)
def OwSend (w : World) (b1 b2 : Nat) (S : List Tr) (k : Nat) (wr : World) : Prop := Pair w.heap.size b1 1 S (owM S k) k b2 1 S (owM S k) k wr ∧ Below w.heap.size w wr
def OwNext (w : World) (b1 b2 : Nat) (S : List Tr) (kk : Nat) (wr : World) : Prop := ∃ M : List Pcl, M.length ≤ 1000 ∧ Pair w.heap.size b1 1 S M kk b2 1 S M kk wr ∧ Below w.heap.size w wr

set_option maxRecDepth 100000 in
set_option maxHeartbeats 1000000 in
theorem own_any {A : Option Addr} {n c : Nat} {L : List Tr} {w : World} (nd : Int) (ha : Arg tc 3 w A n L) (hn : n ≤ maxLen) (hn1 : 0 ≤ nd ∧ nd ≤ 255) :
    Calls Try.prog 8 #[.slice A n c, .int .u8 nd] w fun e w' => e = .returned (.bool true) ∧ Below w.heap.size w w' := by
  obtain ⟨i0, hi0, hz0, hz1, hz2⟩ := info_parts Try.info42
  obtain ⟨m1, m2⟩ := hn1
  have hm1 : 0 ≤ nd % 30 := by omega
  have hm2 : nd % 30 ≤ 29 := by omega
  have HA := Lib.hid ha
  have HN := Lib.hid hn
  clear ha hn
  go_enter Try.func8, Try.ntmps8
  go_wp2_with fail
  refine (sanity_any _).mono ?_
  rintro e w1 ⟨rfl, hb1⟩
  have HB1 := Lib.hid hb1
  clear hb1
  go_wp2_with fail
  refine (script_any (HA.out.keep HB1.out) HN.out).mono ?_
  rintro e w2 ⟨v, rfl, ho2, hb2⟩
  have hsl : (sc L).length ≤ 12 := by rw [sc_len]; omega
  have hsd := sc_trAt L
  have HSD := Lib.hid hsd
  clear hsd
  have hB2 : Below w.heap.size w w2 := HB1.out.trans (hb2.mono HB1.out.size)
  have ho2' := own_base ho2 HB1.out.size
  generalize sc L = S at *
  have HO2 := Lib.hid ho2'
  have HB2 := Lib.hid hB2
  clear ho2 hb2 ho2' hB2 HB1 HA HN
  obtain ⟨Av, cv, rfl, _, _⟩ := own_form' HO2.out
  go_wp2_with fail
  refine (new_any 1 HO2.out (by omega)).mono ?_
  rintro e w3 ⟨b1, s1, rfl, hN3, hb3⟩
  have HN3 := Lib.hid hN3
  have HB3 := Lib.hid hb3
  have HO3 := Lib.hid (own_only HO2.out (Only.of_below hb3 NoneOf) (fun _ _ h => h))
  clear hN3 hb3
  go_wp2_with (at_builtin; refine wpList_append_src rfl _ _ 22 rfl w3.heap.size 42 i0 _ 3 24 Try.underlying22 hi0 hz0 hz1 hz2 rfl (by decide) (.slice (some ⟨w3.heap.size, 0, none⟩) 0 0) 0 [] rfl (by exact World.ownsRow_made w3 _ 0 (Nat.le_refl _) (by unfold maxLen; omega) rfl) w.heap.size (.slice Av S.length cv) S.length (S.flatMap tc) rfl (by exact HO3.out.alloc _) (tc_one S) (by rw [maxLen_val]; omega) (by omega) (by simp) ?_; intro v4 w4 hown4 hgrow4)
  have hb34 : Below w3.heap.size w3 w4 := ((Below.refl _ w3).alloc (Nat.le_refl _) _).grown hgrow4 (by simp) (fun k hk => by simp [Value.ownBlock] at hk; omega)
  have hown4' : w4.ownsRow w3.heap.size 42 3 v4 S.length (S.flatMap tc) := by simpa using hown4
  refine (new_any 1 hown4' (by omega)).mono ?_
  rintro e w5 ⟨b2, s2, rfl, hN5, hb5⟩
  have hb35 : Below w3.heap.size w3 w5 := hb34.trans (hb5.mono hb34.size)
  have hPair : Pair w2.heap.size b1 1 S [] 0 b2 1 S [] 0 w5 := pair_new HN3.out hb35 hN5 hb34.size (Nat.le_refl _) (by have := HB3.out.size; have := hb34.size; omega)
  have hM : OwMake w w2.heap.size b1 b2 S (.slice Av S.length cv) w5 :=
    ⟨hPair, (HB2.out.trans (HB3.out.mono HB2.out.size)).trans (hb35.mono (by have := HB2.out.size; have := HB3.out.size; omega)), by have := HB3.out.size; have := hb35.size; omega, S, rfl, own_only HO3.out (Only.of_below hb35 NoneOf) (fun _ _ h => h)⟩
  have hlow : ∀ g, (Value.slice Av S.length cv).ownBlock = some g → g < w2.heap.size := fun g hg => (HO2.out.lt g hg).2
  have HLOW := Lib.hid hlow
  have HM := Lib.hid hM
  clear hown4 hgrow4 hb34 hown4' hN5 hb5 hb35 hPair hlow hM HN3 HB3 HO3 HO2
  go_wp2_with fail
  go_loopw [9] (fun v wr => ∃ k : Nat, v = .int .i64 k ∧ k ≤ S.length ∧ OwMake w w2.heap.size b1 b2 S (.slice Av S.length cv) wr) (fun v _ => S.length - (intOf v).toNat)
  case atStart => exact ⟨0, rfl, by omega, HM.out⟩
  case round =>
    clear HM
    obtain ⟨k, rfl, hk, hP, hb, hsz, S', hS', ho⟩ := hrel
    by_cases hlt : k < S.length
    · obtain ⟨g, cap, he, hg1, hg2, _, _⟩ := own_form ho (by omega)
      have he1 : Av = some ⟨g, 0, none⟩ ∧ cv = cap := by injection he with h1 h2 h3; exact ⟨h1, h3⟩
      obtain ⟨rfl, rfl⟩ := he1
      obtain ⟨t, ht⟩ : ∃ t, S'[k]? = some t := ⟨_, List.getElem?_eq_getElem (by omega)⟩
      have d0 := (ho.cellAt (k * 3 + 0) (by omega)).trans (flat_get tc_len S' k 0 (by omega) t ht)
      have d1 := (ho.cellAt (k * 3 + 1) (by omega)).trans (flat_get tc_len S' k 1 (by omega) t ht)
      have d2 := (ho.cellAt (k * 3 + 2) (by omega)).trans (flat_get tc_len S' k 2 (by omega) t ht)
      simp only [tc, List.getElem?_cons_zero, List.getElem?_cons_succ, Nat.add_zero] at d0 d1 d2
      have f0 := ho.frozenAt (k * 3)
      have f1 := ho.frozenAt (k * 3 + 1)
      have f2 := ho.frozenAt (k * 3 + 2)
      have hput := own_put tc_len ⟨!t.lost, 0, 3⟩ ho (by omega : k < S'.length)
      have HPUT := Lib.hid hput
      have HP := Lib.hid hP
      have HB := Lib.hid hb
      have hgl := HLOW.out g rfl
      clear he hput hP hb ho ht
      go_wp2_with fail
      go_roundw
      case rel =>
        have hst := only_stores (S := fun i => i = g) (g := g) (.inl rfl) (tc ⟨!t.lost, 0, 3⟩) (k * 3) (Only.refl _ wr)
        refine ⟨k + 1, by go_num, by omega, ?_, ?_, ?_, S'.set k ⟨!t.lost, 0, 3⟩, by simp [hS'], HPUT.out⟩
        · exact HP.out.low (hst.mono (fun i _ hi => by omega))
        · exact HB.out.trans (hst.below (by have := HB.out.size; omega) (fun i hi => by omega))
        · have := hst.size; exact Nat.le_trans hsz this
      case measure => simp [intOf]; omega
    · obtain rfl : k = S.length := by omega
      have hR2 : OwSend w b1 b2 S 0 wr := ⟨hP.base HB2.out.size, hb⟩
      have HR2 := Lib.hid hR2
      clear hP hb ho hS' hR2
      go_wp2_with fail
      go_loopw [10] (fun v wr => ∃ k : Nat, v = .int .i64 k ∧ (k : Int) ≤ nd % 30 ∧ OwSend w b1 b2 S k wr) (fun v _ => 30 - (intOf v).toNat)
      case atStart => exact ⟨0, rfl, by omega, HR2.out⟩
      case round =>
        clear HR2
        obtain ⟨j, rfl, hj, hP, hb⟩ := hrel
        by_cases hlt : (j : Int) < nd % 30
        · have hml := owM_len S j
          have h1 := pair_send hP j j 0 ⟨#[]⟩ hb.size (by omega) (by omega) (by omega) (by omega) (by omega) (HSD.out j)
          simp only [msg] at h1
          have H1 := Lib.hid h1
          have HB := Lib.hid hb
          clear h1 hP hb
          go_wp2_with fail
          refine H1.out.mono ?_
          rintro e w6 ⟨rfl, hP6, hb6, _⟩
          have h2 := pair_send2 hP6 j j 0 ⟨#[]⟩ (by have := HB.out.size; have := hb6.size; omega) (by omega) (by omega) (by omega) (by omega) (by omega) (HSD.out j)
          simp only [msg] at h2
          have H2 := Lib.hid h2
          have HB6 := Lib.hid hb6
          clear h2 hP6 hb6
          go_wp2_with fail
          refine H2.out.mono ?_
          rintro e w7 ⟨rfl, hP7, hb7, _⟩
          go_wp2_with fail
          go_roundw
          case rel => exact ⟨j + 1, by go_num, by omega, hP7, (HB.out.trans HB6.out).trans hb7⟩
          case measure => simp [intOf]; omega
        · have hml := owM_len S j
          have hR3 : OwNext w b1 b2 S j wr := ⟨owM S j, by omega, hP, hb⟩
          have HR3 := Lib.hid hR3
          clear hP hb hR3
          go_wp2_with fail
          go_loopw [11] (fun v wr => ∃ i : Nat, v = .int .i64 i ∧ i ≤ 300 ∧ OwNext w b1 b2 S j wr) (fun v _ => 300 - (intOf v).toNat)
          case atStart => exact ⟨0, rfl, by omega, HR3.out⟩
          case round =>
            clear HR3
            obtain ⟨i, rfl, hi, M, hMl, hP, hb⟩ := hrel
            by_cases hlt : i < 300
            · have h1 := pair_next hP (by omega)
              have H1 := Lib.hid h1
              have HB := Lib.hid hb
              clear h1 hP hb
              go_wp2_with fail
              refine H1.out.mono ?_
              rintro e w6 ⟨rfl, hP6, hb6, _⟩
              have h2 := pair_next2 (hP6.only ((Only.refl NoneOf w6).alloc (.cells #[.int .i64 (hd M).fr, .int .i64 (hd M).tgt, .string (hd M).tx] 31))) (by omega)
              have H2 := Lib.hid h2
              have HB6 := Lib.hid hb6
              have hbox := Blk.new w6 31 #[.int .i64 (hd M).fr, .int .i64 (hd M).tgt, .string (hd M).tx]
              have HBX := Lib.hid hbox
              clear h2 hP6 hb6 hbox
              unfold gotV msg
              go_wp2_with fail
              refine H2.out.mono ?_
              rintro e w7 ⟨rfl, hP7, hb7, hk7⟩
              have hbx := hk7 _ _ _ (by decide) (by decide) HBX.out
              have c0 := hbx.cell 0
              have c1 := hbx.cell 1
              have c2 := hbx.cell 2
              have cl := hbx.lt
              simp only [List.getElem?_toArray, List.getElem?_cons_zero, List.getElem?_cons_succ] at c0 c1 c2
              have hbl : Below w.heap.size w w7 := ((HB.out.trans HB6.out).alloc (by have := HB.out.size; have := HB6.out.size; omega) _).trans hb7
              have HBL := Lib.hid hbl
              have HP7 := Lib.hid hP7
              clear hP7 hb7 hk7 hbx hbl
              unfold gotV msg
              go_wp2_with fail
              go_roundw
              case rel => exact ⟨i + 1, by go_num, by omega, M.tail, by have := List.length_tail (l := M); omega, HP7.out.only ((Only.refl NoneOf _).alloc _), HBL.out.alloc HBL.out.size _⟩
              case measure => simp [intOf]; omega
            · have HB := Lib.hid hb
              clear hP hb
              go_wp2_with fail
              go_ret
              exact ⟨rfl, HB.out⟩
end Go.Proofs.Ytoaddfmbjehhoaa
