/- What is proved here: what the net's function Next does. Conditions: the slices are the call's own, and short. -/
import Derived.Test.YtoaddfmbjehhoaaNetF
namespace Go.Proofs.Ytoaddfmbjehhoaa
open Go.RowKit
attribute [local go_sem] ta67

def noMsg : Value := .tuple #[.agg #[.int .i64 0, .int .i64 0, .string ⟨#[]⟩], .int .i64 0, .bool false]
def gotMsg (p : Pcl) : Value := .tuple #[msg p.fr p.tgt p.tx, .int .i64 p.due, .bool true]

set_option maxHeartbeats 400000 in
theorem next_nil (w : World) :
    Calls Try.prog 16 #[.pointer none] w fun e w' => e = .returned noMsg ∧ Below w.heap.size w w' := by
  unfold noMsg
  go_enter Try.func16, Try.ntmps16
  go_wp2
  refine bodyPost_ret (v := .tuple #[.agg #[.int .i64 0, .int .i64 0, .string ⟨#[]⟩], .int .i64 0, .bool false]) (by simp [results, Try.results16, go_sem]) rfl ⟨rfl, ?_⟩
  exact (Below.refl _ _).alloc (Nat.le_refl _) _

set_option maxHeartbeats 400000 in
theorem next_empty {B b : Nat} {nodes : Int} {S : List Tr} {sv wv : Value} {k : Nat} {w : World} (h : NetAt B b nodes S sv wv [] k w) :
    Calls Try.prog 16 #[.pointer (some ⟨b, 0, none⟩)] w fun e w' => e = .returned noMsg ∧ Below w.heap.size w w' := by
  obtain ⟨L, hL, ho⟩ := h.waits
  obtain ⟨A, cap, rfl, _, _⟩ := own_form' ho
  have lb := h.blk.lt
  have hml := met_len' (((h.blk.alloc (.cells #[.int .i64 0, .int .i64 0, .string ⟨#[]⟩] 31)).cell 2))
  have HL := Lib.hid hL
  clear ho h hL
  unfold noMsg
  go_enter Try.func16, Try.ntmps16
  go_wp2_with (first
    | (go_at_call 23; refine (queue_any _ _).mono ?_; rintro e w1 ⟨rfl, rfl⟩)
    | (go_at_call 43; refine (len_any _ _ _ _).mono ?_; rintro e w1 ⟨rfl, rfl⟩))
  refine bodyPost_ret (v := .tuple #[.agg #[.int .i64 0, .int .i64 0, .string ⟨#[]⟩], .int .i64 0, .bool false]) (by simp [results, Try.results16, go_sem]) rfl ⟨rfl, ?_⟩
  exact (Below.refl _ _).alloc (Nat.le_refl _) _

def NextPost (B b : Nat) (nodes : Int) (S : List Tr) (sv wv : Value) (p : Pcl) (M : List Pcl) (k : Nat) (w : World) (e : Ending) (w' : World) : Prop :=
  e = .returned (gotMsg p) ∧ ∃ wv', NetAt B b nodes S sv wv' M k w' ∧ wv'.ownBlock = wv.ownBlock ∧ Only (fun i => i = b ∨ wv.ownBlock = some i) w w'
theorem nx_cells {B b : Nat} {nodes : Int} {S : List Tr} {sv wv : Value} {M : List Pcl} {k : Nat} {w w2 : World} {z0 z1 z2 : Value} (hN : NetAt B b nodes S sv wv M k (w.alloc (.cells #[z0, z1, z2] 31)))
    (ho : Only (fun k => k = b ∨ wv.ownBlock = some k) (w.alloc (.cells #[z0, z1, z2] 31)) w2) :
    w2.cell? ⟨w.heap.size, 0, none⟩ = some z0 ∧ w2.cell? ⟨w.heap.size, 1, none⟩ = some z1 ∧ w2.cell? ⟨w.heap.size, 2, none⟩ = some z2 ∧
      w2.frozen? ⟨w.heap.size, 0, none⟩ = false ∧ w2.frozen? ⟨w.heap.size, 1, none⟩ = false ∧ w2.frozen? ⟨w.heap.size, 2, none⟩ = false ∧ w.heap.size < w2.heap.size ∧ b < w2.heap.size ∧ Blk w2 w.heap.size 31 #[z0, z1, z2] := by
  obtain ⟨L, hL, hw⟩ := hN.waits
  have h1 := Blk.new w 31 #[z0, z1, z2]
  have n1 : ¬ (w.heap.size = b ∨ wv.ownBlock = some w.heap.size) := by
    rintro (e | e)
    · exact h1.ne_ hN.blk (by decide) e
    · exact own_blk_ne hw h1 (by decide) e
  have h2 := h1.only ho n1
  exact ⟨h2.cell 0, h2.cell 1, h2.cell 2, h2.frozen 0, h2.frozen 1, h2.frozen 2, h2.lt, by have := hN.blk.lt; have := ho.size; omega, h2⟩
theorem next_net {B b : Nat} {nodes : Int} {S : List Tr} {sv wv wv2 : Value} {p : Pcl} {M : List Pcl} {k : Nat} {W w2 : World} (hN : NetAt B b nodes S sv wv (p :: M) k W)
    (hh : HeapAt B b 2 53 (#[.int .i64 nodes, sv, wv, .int .i64 k].setIfInBounds 2 wv2) wv2 M w2) (ho : Only (fun k => k = b ∨ wv.ownBlock = some k) W w2) (hw : wv2.ownBlock = wv.ownBlock) : NetAt B b nodes S sv wv2 M k w2 := by
  obtain ⟨L, hL, hwo⟩ := hN.waits
  refine ⟨hN.1, hh, own_only hN.2.2.1 ho ?_, fun q hq => hN.2.2.2 q (List.mem_cons_of_mem _ hq)⟩
  intro g hg h
  rcases h with h | h
  · exact own_blk_ne hN.2.2.1 hN.blk (by decide) (by rw [hg, h])
  · exact own_own_ne hN.2.2.1 hwo (by decide) hg h
theorem next_ne {B b : Nat} {nodes : Int} {S : List Tr} {sv wv wv2 : Value} {p : Pcl} {M : List Pcl} {k : Nat} {w w2 : World} {z0 z1 z2 : Value} (hN : NetAt B b nodes S sv wv (p :: M) k (w.alloc (.cells #[z0, z1, z2] 31)))
    (_ho : Only (fun k => k = b ∨ wv.ownBlock = some k) (w.alloc (.cells #[z0, z1, z2] 31)) w2) (hw : wv2.ownBlock = wv.ownBlock) : ¬ (b = w.heap.size) ∧ (∀ g, sv.ownBlock = some g → ¬ g = w.heap.size) ∧ (∀ g, wv2.ownBlock = some g → ¬ g = w.heap.size) := by
  obtain ⟨L, hL, hwo⟩ := hN.waits
  have h1 := Blk.new w 31 #[z0, z1, z2]
  refine ⟨fun e => h1.ne_ hN.blk (by decide) e.symm, fun g hg e => own_blk_ne hN.2.2.1 h1 (by decide) (by rw [hg, e]), fun g hg e => own_blk_ne hwo h1 (by decide) (by rw [← hw, hg, e])⟩
set_option maxHeartbeats 1000000 in
theorem next_any {B b : Nat} {nodes : Int} {S : List Tr} {sv wv : Value} {p : Pcl} {M : List Pcl} {k : Nat} {w : World} (h : NetAt B b nodes S sv wv (p :: M) k w) (_hM : M.length ≤ 90000) :
    Calls Try.prog 16 #[.pointer (some ⟨b, 0, none⟩)] w (NextPost B b nodes S sv wv p M k w) := by
  obtain ⟨L, hL, ho⟩ := h.waits
  have hwv : ∃ A c, wv = .slice A (p :: M).length c := by obtain ⟨A, c, h1, _⟩ := own_form' ho; exact ⟨A, c, h1⟩
  obtain ⟨A, cap, rfl⟩ := hwv
  have lb := h.blk.lt
  have hml := met_len' (((h.blk.alloc (.cells #[.int .i64 0, .int .i64 0, .string ⟨#[]⟩] 31)).cell 2))
  have HN1 := Lib.hid (h.only ((Only.refl NoneOf w).alloc (.cells #[.int .i64 0, .int .i64 0, .string ⟨#[]⟩] 31)) (fun h => h) (fun _ _ h => h) (fun _ _ h => h))
  have hP := hpop_any p HN1.out.2.1 (by omega) (by decide)
  have HP := Lib.hid hP
  have hne0 : (((p :: M).length : Int) == 0) = false := beq_eq_false_iff_ne.2 (by simp; omega)
  have HL := Lib.hid hL
  have HH := Lib.hid h
  have HO := Lib.hid ho
  clear ho h hL hP
  generalize hln : (p :: M).length = ln at *
  have HLN := Lib.hid hln
  clear hln
  go_enter Try.func16, Try.ntmps16
  go_wp2_with (first
    | (go_at_call 23; refine (queue_any _ _).mono ?_; rintro e w1 ⟨rfl, rfl⟩)
    | (go_at_call 43; refine (len_any _ _ _ _).mono ?_; rintro e w1 ⟨rfl, rfl⟩)
    | (go_at_call 24; refine HP.out.mono ?_; rintro e w2 ⟨rfl, wv2, hh2, ho2, hn2⟩; unfold aggP; obtain ⟨z0, z1, z2, y0, y1, y2, hsz, hb2, hzb⟩ := nx_cells HN1.out hn2; have HH2 := Lib.hid hh2; have HN2 := Lib.hid hn2; have HO2 := Lib.hid ho2; clear hh2 hn2 ho2))
  go_region
  all_goals
    go_wp2
    have hz := (((((hzb.set_ 0 (.int .i64 p.fr)).set_ 1 (.int .i64 p.tgt)).set_ 2 (.string p.tx)).alloc (.cells #[.int .i64 p.fr, .int .i64 p.tgt, .string p.tx, .int .i64 p.due, .int .i64 p.sent] 67)).drew)
    have q0 := hz.cell 0
    have q1 := hz.cell 1
    have q2 := hz.cell 2
    simp at q0 q1 q2
    have hbase : Only (fun i => i = w.heap.size) w2 (((((w2.setCell ⟨w.heap.size, 0, none⟩ (.int .i64 p.fr)).setCell ⟨w.heap.size, 1, none⟩ (.int .i64 p.tgt)).setCell ⟨w.heap.size, 2, none⟩ (.string p.tx)).alloc (.cells #[.int .i64 p.fr, .int .i64 p.tgt, .string p.tx, .int .i64 p.due, .int .i64 p.sent] 67)).drew) :=
        ((((((Only.refl (fun i => i = w.heap.size) w2).setCell (p := ⟨w.heap.size, 0, none⟩) (.inl rfl) _).setCell (p := ⟨w.heap.size, 1, none⟩) (.inl rfl) _).setCell (p := ⟨w.heap.size, 2, none⟩) (.inl rfl) _).alloc _).drew)
    refine bodyPost_ret (v := .tuple #[.agg #[.int .i64 p.fr, .int .i64 p.tgt, .string p.tx], .int .i64 p.due, .bool true]) (by simp [results, Try.results16, go_sem, q0, q1, q2]) rfl ⟨rfl, wv2, ?_, HO2.out, ?_⟩
    · exact (next_net HN1.out HH2.out HN2.out HO2.out).only hbase (next_ne HN1.out HN2.out HO2.out).1 (next_ne HN1.out HN2.out HO2.out).2.1 (next_ne HN1.out HN2.out HO2.out).2.2
    · exact (((Only.refl _ w).alloc _).trans' HN2.out (fun i _ h => h)).trans' hbase (fun i hi h => by omega)
end Go.Proofs.Ytoaddfmbjehhoaa
