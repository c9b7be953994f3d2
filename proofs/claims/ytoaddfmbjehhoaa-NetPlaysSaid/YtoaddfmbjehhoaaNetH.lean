/- What is proved here: what the laws' own functions script and sanity do. Conditions: the slice that comes in reads as a list. -/
import Derived.Test.YtoaddfmbjehhoaaNetG
import Derived.Test.YtoaddfmbjehhoaaOpen
namespace Go.Proofs.Ytoaddfmbjehhoaa
open Go.RowKit
attribute [local go_sem ↓] Go.wp_at_zero Go.wp_at_succ

theorem send_any {B b : Nat} {nodes : Int} {S : List Tr} {sv wv : Value} {M : List Pcl} {k : Nat} {w : World} (now fr tgt : Int) (tx : ByteArray) (h : NetAt B b nodes S sv wv M k w) (hB : B ≤ w.heap.size) (hn : S.length ≤ 1000000) (hk : k ≤ 1000000)
    (hM : M.length ≤ 90000) (h1 : -1000000000 ≤ now) (h2 : now ≤ 1000000000) (h3 : (trAt S k).delay ≤ 1000000000) :
    Calls Try.prog 14 #[.pointer (some ⟨b, 0, none⟩), .int .i64 now, msg fr tgt tx] w (SendPost B b nodes S sv wv (sendM nodes S k now fr tgt tx M) k w) := by
  unfold sendM
  by_cases hd : Drops nodes (trAt S k) tgt
  · rw [if_pos hd]; exact send_drop now fr tgt tx h hn hk hd
  · rw [if_neg hd]; exact send_go now fr tgt tx h hB hn hk hd hM h1 h2 h3

def sc (L : List Tr) : List Tr := (L.take 12).map fun t => { t with delay := t.delay.tmod 100000 }
theorem sc_len (L : List Tr) : (sc L).length = min 12 L.length := by simp [sc]
theorem sc_delay (L : List Tr) : ∀ t ∈ sc L, -99999 ≤ t.delay ∧ t.delay ≤ 99999 := by
  intro t ht
  obtain ⟨u, _, rfl⟩ := List.mem_map.1 ht
  simp only
  have h1 := Int.tmod_lt_of_pos u.delay (show (0 : Int) < 100000 by omega)
  have h2 := Int.lt_tmod_of_pos u.delay (show (0 : Int) < 100000 by omega)
  omega
def scN (L : List Tr) (k : Nat) : List Tr := (L.take k).map fun t => { t with delay := t.delay.tmod 100000 }
theorem scN_succ (L : List Tr) (k : Nat) (t : Tr) (h : L[k]? = some t) : scN L (k + 1) = scN L k ++ [{ t with delay := t.delay.tmod 100000 }] := by
  unfold scN
  rw [List.take_add_one, h]; simp
theorem scN_len (L : List Tr) (k : Nat) (h : k ≤ L.length) : (scN L k).length = k := by
  unfold scN; simp; omega

def ScriptPost (L : List Tr) (w : World) (e : Ending) (w' : World) : Prop :=
  ∃ v, e = .returned v ∧ w'.ownsRow w.heap.size 42 3 v (sc L).length ((sc L).flatMap tc) ∧ Below w.heap.size w w'
set_option maxHeartbeats 1000000 in
theorem script_any {A : Option Addr} {n c : Nat} {L : List Tr} {w : World} (ha : Arg tc 3 w A n L) (_hn : n ≤ maxLen) :
    Calls Try.prog 11 #[.slice A n c] w (ScriptPost L w) := by
  obtain ⟨i0, hi0, hz0, hz1, hz2⟩ := info_parts Try.info42
  have HA := Lib.hid ha
  clear ha
  rw [maxLen_val] at _hn
  go_enter Try.func11, Try.ntmps11
  go_wp2_with fail
  go_loopw [3, 4] (fun v u wr => ∃ k : Nat, u = .int .i64 k ∧ k ≤ n ∧ k ≤ 12 ∧ wr.ownsRow w.heap.size 42 3 v k ((scN L k).flatMap tc) ∧ Below w.heap.size w wr) (fun _ u _ => 12 - (intOf u).toNat)
  case atStart => exact ⟨0, rfl, by omega, by omega, World.ownsRow_nil _ _ _ _, Below.refl _ _⟩
  case round =>
    obtain ⟨k, rfl, hk1, hk2, ho, hbl⟩ := hrel
    by_cases hlt : k < n ∧ k < 12
    · obtain ⟨hlt1, hlt2⟩ := hlt
      obtain ⟨t, ht⟩ : ∃ t, L[k]? = some t := ⟨_, List.getElem?_eq_getElem (by rw [HA.out.1]; exact hlt1)⟩
      obtain ⟨bk, off, rfl, hlt, hc⟩ := HA.out.2 k t ht
      have c0 := hc 0 (by omega)
      have c1 := hc 1 (by omega)
      have c2 := hc 2 (by omega)
      simp only [tc, List.getElem?_cons_zero, List.getElem?_cons_succ, Nat.add_zero] at c0 c1 c2
      obtain ⟨lost, cp, dl⟩ := t
      rw [← hbl.cell hlt] at c0
      rw [← hbl.cell hlt] at c1
      rw [← hbl.cell hlt] at c2
      have HT := Lib.hid ht
      have HO := Lib.hid ho
      have HB := Lib.hid hbl
      obtain ⟨A', cap', rfl, _, _⟩ := own_form' ho
      have hsz := hbl.size
      have hlt' : bk < wr.heap.size := by omega
      clear ht ho hbl hc
      go_wp2_with (at_builtin; refine wpList_append_own _ rfl _ _ 22 rfl w.heap.size 42 i0 _ 3 24 Try.underlying22 hi0 hz0 hz1 hz2 rfl (by decide) (.slice A' k cap') k ((scN L k).flatMap tc) rfl (by exact (HO.out.alloc _).alloc _) ⟨wr.heap.size + 1, 0, none⟩ 1 1 [.bool lost, .int .i64 cp, .int .i64 (dl.tmod 100000)] rfl rfl (World.news_of_block (cs := #[.bool lost, .int .i64 cp, .int .i64 (dl.tmod 100000)]) (t := 42) (fr := (0, 0)) (by simpa using heap_alloc_new (wr.alloc _) _)) (by simp [Value.oneCell']) (by rw [maxLen_val]; omega) (by omega) (by simp; omega) ?_; intro v' w1 hown1 hgrow _)
      go_roundw
      case rel =>
        refine ⟨k + 1, by go_num, by omega, by omega, ?_, ?_⟩
        · rw [scN_succ L k _ HT.out, List.flatMap_append]
          simpa [tc] using hown1
        · exact ((HB.out.alloc hsz _).alloc (by simp; omega) _).grown hgrow (by simp; omega) (fun g hg => (HO.out.lt g hg).1)
      case measure => simp [intOf]; omega
    · have hk : min 12 n = k := by omega
      have HO := Lib.hid ho
      have HB := Lib.hid hbl
      clear ho hbl
      have hfin : ScriptPost L w (.returned u3) wr := by
        have hL := HA.out.1
        have e1 : scN L k = sc L := by
          unfold scN sc
          rw [← hk, ← hL, ← List.take_take, List.take_length]
        refine ⟨u3, rfl, ?_, HB.out⟩
        rw [← e1, scN_len L k (by omega)]
        exact HO.out
      have HF := Lib.hid hfin
      clear hfin
      by_cases h1 : k < n
      · have h2 : ¬ k < 12 := fun h => hlt ⟨h1, h⟩
        clear hlt
        go_wp2_with fail
        go_ret
        exact HF.out
      · clear hlt
        go_wp2_with fail
        go_ret
        exact HF.out
end Go.Proofs.Ytoaddfmbjehhoaa
