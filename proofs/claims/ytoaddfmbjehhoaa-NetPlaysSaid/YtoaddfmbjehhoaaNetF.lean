/- What is proved here: what the net's function Send does. Conditions: the slices are the call's own, and short; the times are small. -/
import Derived.Test.YtoaddfmbjehhoaaNetE
namespace Go.Proofs.Ytoaddfmbjehhoaa
open Go.RowKit
attribute [local go_sem ↓] Go.wp_at_zero Go.wp_at_succ

def msg (fr tgt : Int) (tx : ByteArray) : Value := .agg #[.int .i64 fr, .int .i64 tgt, .string tx]
def copies (t : Tr) : Nat := (min (max t.copies 1) 8).toNat
def addM (p : Pcl) : Nat → List Pcl → List Pcl
  | 0, M => M
  | j + 1, M => ins { p with due := p.due + j } (addM p j M)
def Drops (nodes : Int) (t : Tr) (tgt : Int) : Prop := t.lost = true ∨ tgt < 0 ∨ nodes ≤ tgt
instance (nodes : Int) (t : Tr) (tgt : Int) : Decidable (Drops nodes t tgt) := by unfold Drops; infer_instance
def sendM (nodes : Int) (S : List Tr) (k : Nat) (now fr tgt : Int) (tx : ByteArray) (M : List Pcl) : List Pcl :=
  if Drops nodes (trAt S k) tgt then M else addM ⟨fr, tgt, tx, now + max (trAt S k).delay 0, k⟩ (copies (trAt S k)) M

def SendPost (B b : Nat) (nodes : Int) (S : List Tr) (sv wv : Value) (M' : List Pcl) (k : Nat) (w : World) (e : Ending) (w' : World) : Prop :=
  e = .returned (.tuple #[]) ∧ ∃ wv', NetAt B b nodes S sv wv' M' (k + 1) w' ∧ (wv'.ownBlock = wv.ownBlock ∨ ∃ g, wv'.ownBlock = some g ∧ w.heap.size ≤ g) ∧ Only (fun i => i = b ∨ wv.ownBlock = some i) w w'

set_option maxHeartbeats 400000 in
theorem send_nil (now fr tgt : Int) (tx : ByteArray) (w : World) :
    Calls Try.prog 14 #[.pointer none, .int .i64 now, msg fr tgt tx] w fun e w' => e = .returned (.tuple #[]) ∧ Below w.heap.size w w' := by
  unfold msg
  go_enter Try.func14, Try.ntmps14
  go_wp2
  refine bodyPost_ret (results_none rfl _ _ _) rfl ?_
  exact ⟨rfl, (Below.refl _ _).alloc (Nat.le_refl _) _⟩

/-- What the walk knows of the world behind the first lines. -/
theorem send_world {B b : Nat} {nodes : Int} {S : List Tr} {sv wv : Value} {M : List Pcl} {k : Nat} {w w1 : World} {bx : Obj} (h : NetAt B b nodes S sv wv M k w) (hb : Below (w.heap.size + 1) (w.alloc bx) w1) (o2 : Obj) :
    NetAt B b nodes S sv wv M (k + 1) ((w1.setCell ⟨b, 3, none⟩ (.int .i64 ((k : Int) + 1))).alloc o2) ∧ Only (fun i => i = b) w ((w1.setCell ⟨b, 3, none⟩ (.int .i64 ((k : Int) + 1))).alloc o2) := by
  have ho1 : Only NoneOf w w1 := ((Only.refl NoneOf w).alloc bx).below' hb (by omega)
  have hn := (h.only ho1 (fun h => h) (fun _ _ h => h) (fun _ _ h => h))
  obtain ⟨hB', ⟨hb', hco, hM, L, hL, hh, ho⟩, hs, hk⟩ := hn
  refine ⟨⟨hB', ⟨?_, rfl, hM, L, hL, hh, (own_far ho (own_blk_ne ho hb' (by decide)) _).alloc _⟩, (own_far hs (own_blk_ne hs hb' (by decide)) _).alloc _, fun q hq => by have := hk q hq; omega⟩, ?_⟩
  · exact (hb'.set_ 3 _).alloc _
  · exact ((ho1.mono (S' := fun i => i = b) (fun i _ h => h.elim)).setCell (p := ⟨b, 3, none⟩) (.inl rfl) _).alloc _
theorem send_cells {B b : Nat} {nodes : Int} {S : List Tr} {sv wv : Value} {M : List Pcl} {k : Nat} {w w1 : World} {m0 m1 m2 : Value} (h : NetAt B b nodes S sv wv M k w) (hb : Below (w.heap.size + 1) (w.alloc (.cells #[m0, m1, m2] 31)) w1) :
    w1.cell? ⟨b, 0, none⟩ = some (.int .i64 nodes) ∧ w1.cell? ⟨b, 3, none⟩ = some (.int .i64 k) ∧ w1.frozen? ⟨b, 3, none⟩ = false ∧ w1.cell? ⟨w.heap.size, 0, none⟩ = some m0 ∧ w1.cell? ⟨w.heap.size, 1, none⟩ = some m1 ∧
      w1.cell? ⟨w.heap.size, 2, none⟩ = some m2 ∧ w.heap.size < w1.heap.size ∧ b < w1.heap.size ∧ Blk w1 w.heap.size 31 #[m0, m1, m2] := by
  have h1 := (h.blk.alloc (.cells #[m0, m1, m2] 31)).below hb (by have := h.blk.lt; omega)
  have h2 := (Blk.new w 31 #[m0, m1, m2]).below hb (by omega)
  exact ⟨h1.cell 0, h1.cell 3, h1.frozen 3, h2.cell 0, h2.cell 1, h2.cell 2, by have := hb.size; simp at this; omega, h1.lt, h2⟩

def DropPost (B b : Nat) (nodes : Int) (S : List Tr) (sv wv : Value) (M : List Pcl) (k : Nat) (w : World) (e : Ending) (w' : World) : Prop :=
  e = .returned (.tuple #[]) ∧ NetAt B b nodes S sv wv M (k + 1) w' ∧ Only (fun i => i = b) w w'
set_option maxHeartbeats 1000000 in
theorem send_drop' {B b : Nat} {nodes : Int} {S : List Tr} {sv wv : Value} {M : List Pcl} {k : Nat} {w : World} (now fr tgt : Int) (tx : ByteArray) (h : NetAt B b nodes S sv wv M k w) (_hn : S.length ≤ 1000000) (_hk : k ≤ 1000000)
    (hd : Drops nodes (trAt S k) tgt) :
    Calls Try.prog 14 #[.pointer (some ⟨b, 0, none⟩), .int .i64 now, msg fr tgt tx] w (DropPost B b nodes S sv wv M k w) := by
  have lb := h.blk.lt
  have hsv : ∃ A c, sv = .slice A S.length c := by obtain ⟨A, c, h1, _⟩ := own_form' h.2.2.1; exact ⟨A, c, h1⟩
  obtain ⟨A, c, rfl⟩ := hsv
  have HH := Lib.hid h
  clear h
  have htr := Lib.hid (trouble_any (w := w.alloc (.cells #[.int .i64 fr, .int .i64 tgt, .string tx] 31)) (HH.out.only ((Only.refl NoneOf w).alloc _) (fun h => h) (fun _ _ h => h) (fun _ _ h => h)) _hn _hk)
  have hE := fun (w1 : World) (hb : Below (w.heap.size + 1) (w.alloc (.cells #[.int .i64 fr, .int .i64 tgt, .string tx] 31)) w1) => Lib.hid (fun o2 => send_world HH.out hb o2)
  generalize trAt S k = t at *
  obtain ⟨lost, cp, dl⟩ := t
  have HH2 := hE
  clear hE
  have hE := fun w1 hb o2 => Lib.hid ((HH2 w1 hb).out o2)
  clear HH2
  unfold msg
  unfold tagg at htr
  by_cases hl : lost = true
  · subst hl
    clear hd
    go_enter Try.func14, Try.ntmps14
    go_wp2_with (first | (go_at_call 21; refine (htr.out).mono ?_; rintro e w1 ⟨rfl, hbl⟩; have hbl' : Below (w.heap.size + 1) _ _ := (by simpa using hbl); have HX := hE w1 hbl'; obtain ⟨c0, c3, f3, d0, d1, d2, hsz, hb1, _⟩ := send_cells HH.out hbl'; clear hbl hbl'))
    go_quiet (fail)
    go_wp2_with fail
    refine bodyPost_ret (results_none rfl _ _ _) rfl ?_
    obtain ⟨hx1, hx2⟩ := (HX (.cells #[.bool true, .int .i64 cp, .int .i64 dl] 42)).out
    exact ⟨rfl, hx1.only ((Only.refl NoneOf _).drewN _) (fun h => h) (fun _ _ h => h) (fun _ _ h => h), hx2.drewN _⟩
  · have hlf : lost = false := by simpa using hl
    subst hlf
    by_cases ht : tgt < 0
    · clear hd hl
      go_enter Try.func14, Try.ntmps14
      go_wp2_with (first | (go_at_call 21; refine (htr.out).mono ?_; rintro e w1 ⟨rfl, hbl⟩; have hbl' : Below (w.heap.size + 1) _ _ := (by simpa using hbl); have HX := hE w1 hbl'; obtain ⟨c0, c3, f3, d0, d1, d2, hsz, hb1, _⟩ := send_cells HH.out hbl'; clear hbl hbl'))
      go_quiet (fail)
      go_wp2_with fail
      refine bodyPost_ret (results_none rfl _ _ _) rfl ?_
      obtain ⟨hx1, hx2⟩ := (HX (.cells #[.bool false, .int .i64 cp, .int .i64 dl] 42)).out
      exact ⟨rfl, hx1.only ((Only.refl NoneOf _).drewN _) (fun h => h) (fun _ _ h => h) (fun _ _ h => h), hx2.drewN _⟩
    · have hno : nodes ≤ tgt := by
        rcases hd with h | h | h
        · exact absurd h hl
        · exact absurd h ht
        · exact h
      clear hd hl
      go_enter Try.func14, Try.ntmps14
      go_wp2_with (first | (go_at_call 21; refine (htr.out).mono ?_; rintro e w1 ⟨rfl, hbl⟩; have hbl' : Below (w.heap.size + 1) _ _ := (by simpa using hbl); have HX := hE w1 hbl'; obtain ⟨c0, c3, f3, d0, d1, d2, hsz, hb1, _⟩ := send_cells HH.out hbl'; clear hbl hbl'))
      go_quiet (fail)
      go_wp2_with fail
      refine bodyPost_ret (results_none rfl _ _ _) rfl ?_
      obtain ⟨hx1, hx2⟩ := (HX (.cells #[.bool false, .int .i64 cp, .int .i64 dl] 42)).out
      exact ⟨rfl, hx1.only ((Only.refl NoneOf _).drewN _) (fun h => h) (fun _ _ h => h) (fun _ _ h => h), hx2.drewN _⟩

theorem send_drop {B b : Nat} {nodes : Int} {S : List Tr} {sv wv : Value} {M : List Pcl} {k : Nat} {w : World} (now fr tgt : Int) (tx : ByteArray) (h : NetAt B b nodes S sv wv M k w) (_hn : S.length ≤ 1000000) (_hk : k ≤ 1000000)
    (hd : Drops nodes (trAt S k) tgt) :
    Calls Try.prog 14 #[.pointer (some ⟨b, 0, none⟩), .int .i64 now, msg fr tgt tx] w (SendPost B b nodes S sv wv M k w) :=
  (send_drop' now fr tgt tx h _hn _hk hd).mono fun _ _ ⟨he, hN, ho⟩ => ⟨he, wv, hN, .inl rfl, ho.mono (fun _ _ h => .inl h)⟩

def SendRel (B b : Nat) (nodes : Int) (S : List Tr) (sv wv : Value) (M : List Pcl) (k : Nat) (w w0 : World) (p : Pcl) (h0 : Nat) (cb ct : Array Value) (j : Nat) (wr : World) : Prop :=
  ∃ wv', NetAt B b nodes S sv wv' (addM p j M) (k + 1) wr ∧ (wv'.ownBlock = wv.ownBlock ∨ ∃ g, wv'.ownBlock = some g ∧ w.heap.size ≤ g) ∧ Only (fun i => i = b ∨ wv.ownBlock = some i) w wr ∧ Blk wr w.heap.size 31 cb ∧ Blk wr h0 42 ct ∧ w0.heap.size ≤ wr.heap.size

theorem addM_mem (p : Pcl) (M : List Pcl) (j : Nat) : ∀ q ∈ addM p j M, q ∈ M ∨ ∃ i, i < j ∧ q = { p with due := p.due + (i : Int) } := by
  induction j with
  | zero => intro q hq; exact .inl hq
  | succ j ih =>
    intro q hq
    have h1 := (ins_perm _ _).mem_iff.1 hq
    rcases List.mem_cons.1 h1 with rfl | h1
    · exact .inr ⟨j, by omega, rfl⟩
    · rcases ih q h1 with h | ⟨i, hi, h⟩
      · exact .inl h
      · exact .inr ⟨i, by omega, h⟩
theorem addM_len (p : Pcl) (M : List Pcl) (j : Nat) : (addM p j M).length = M.length + j := by
  induction j with
  | zero => rfl
  | succ j ih =>
    show (ins _ _).length = _
    rw [(ins_perm _ _).length_eq, List.length_cons, ih]; omega
theorem addM_new {p : Pcl} {M : List Pcl} {k : Nat} (hk : ∀ q ∈ M, q.sent < k) (hp : p.sent = k) (j : Nat) : ∀ q ∈ addM p j M, Lt { p with due := p.due + (j : Int) } q ∨ Lt q { p with due := p.due + (j : Int) } := by
  intro q hq
  rcases addM_mem p M j q hq with h | ⟨i, hi, rfl⟩
  · have := hk q h
    unfold Lt
    simp only
    omega
  · unfold Lt
    simp only
    omega

theorem sw_cells {B b : Nat} {nodes : Int} {S : List Tr} {sv wv : Value} {M : List Pcl} {k : Nat} {wr w2 : World} {h h0 : Nat} {m0 m1 m2 t0 t1 t2 : Value} (h1 : Blk wr h 31 #[m0, m1, m2]) (h2 : Blk wr h0 42 #[t0, t1, t2]) (hN : NetAt B b nodes S sv wv M k wr)
    (ho : Only (fun k => k = b ∨ wv.ownBlock = some k) wr w2) : w2.cell? ⟨h, 0, none⟩ = some m0 ∧ w2.cell? ⟨h, 1, none⟩ = some m1 ∧ w2.cell? ⟨h, 2, none⟩ = some m2 ∧ w2.cell? ⟨h0, 2, none⟩ = some t2 := by
  obtain ⟨L, hL, hw⟩ := hN.waits
  have n1 : ¬ (h = b ∨ wv.ownBlock = some h) := by
    rintro (e | e)
    · exact h1.ne_ hN.blk (by decide) e
    · exact own_blk_ne hw h1 (by decide) e
  have n2 : ¬ (h0 = b ∨ wv.ownBlock = some h0) := by
    rintro (e | e)
    · exact h2.ne_ hN.blk (by decide) e
    · exact own_blk_ne hw h2 (by decide) e
  exact ⟨(h1.only ho n1).cell 0, (h1.only ho n1).cell 1, (h1.only ho n1).cell 2, (h2.only ho n2).cell 2⟩

theorem send_round {B b : Nat} {nodes : Int} {S : List Tr} {sv wv wv' wv2 : Value} {M : List Pcl} {k j : Nat} {w w0 wr w2 : World} {fr tgt due : Int} {tx : ByteArray} {h0 : Nat} {m0 m1 m2 t0 t1 t2 : Value}
    (hM : ∀ q ∈ M, q.sent < k) (hN : NetAt B b nodes S sv wv' (addM ⟨fr, tgt, tx, due, k⟩ j M) (k + 1) wr) (hw : wv'.ownBlock = wv.ownBlock ∨ ∃ g, wv'.ownBlock = some g ∧ w.heap.size ≤ g)
    (ho : Only (fun i => i = b ∨ wv.ownBlock = some i) w wr) (hb1 : Blk wr w.heap.size 31 #[m0, m1, m2]) (hb2 : Blk wr h0 42 #[t0, t1, t2]) (hsz : w0.heap.size ≤ wr.heap.size)
    (hh : HeapAt B b 2 53 (#[.int .i64 nodes, sv, wv', .int .i64 ((k + 1 : Nat) : Int)].setIfInBounds 2 wv2) wv2 (ins ⟨fr, tgt, tx, due + j, k⟩ (addM ⟨fr, tgt, tx, due, k⟩ j M)) w2)
    (hw2 : wv2.ownBlock = wv'.ownBlock ∨ ∃ g, wv2.ownBlock = some g ∧ wr.heap.size ≤ g) (ho2 : Only (fun k => k = b ∨ wv'.ownBlock = some k) wr w2) :
    SendRel B b nodes S sv wv M k w w0 ⟨fr, tgt, tx, due, k⟩ h0 #[m0, m1, m2] #[t0, t1, t2] (j + 1) w2 := by
  obtain ⟨L, hL, hwo⟩ := hN.waits
  have hS : ∀ i, i < w.heap.size → (i = b ∨ wv'.ownBlock = some i) → (i = b ∨ wv.ownBlock = some i) := by
    intro i hi h
    rcases h with h | h
    · exact .inl h
    · rcases hw with e | ⟨g, e, hg⟩
      · exact .inr (by rw [← e]; exact h)
      · rw [e] at h; injection h with h; omega
  refine ⟨wv2, ⟨hN.1, hh, own_only hN.2.2.1 ho2 ?_, ?_⟩, ?_, ho.trans' ho2 hS, ?_, ?_, by have := ho2.size; omega⟩
  · intro g hg h
    rcases h with h | h
    · exact own_blk_ne hN.2.2.1 hN.blk (by decide) (by rw [hg, h])
    · exact own_own_ne hN.2.2.1 hwo (by decide) hg h
  · intro q hq
    rcases addM_mem _ M (j + 1) q hq with h | ⟨i, _, rfl⟩
    · have := hM q h; omega
    · simp only; omega
  · rcases hw2 with e | ⟨g, e, hg⟩
    · rw [e]; exact hw
    · exact .inr ⟨g, e, by have := ho.size; omega⟩
  · refine hb1.only ho2 ?_
    rintro (e | e)
    · exact hb1.ne_ hN.blk (by decide) e
    · exact own_blk_ne hwo hb1 (by decide) e
  · refine hb2.only ho2 ?_
    rintro (e | e)
    · exact hb2.ne_ hN.blk (by decide) e
    · exact own_blk_ne hwo hb2 (by decide) e

set_option maxHeartbeats 1000000 in
theorem send_go {B b : Nat} {nodes : Int} {S : List Tr} {sv wv : Value} {M : List Pcl} {k : Nat} {w : World} (now fr tgt : Int) (tx : ByteArray) (h : NetAt B b nodes S sv wv M k w) (hB : B ≤ w.heap.size) (_hn : S.length ≤ 1000000) (_hk : k ≤ 1000000)
    (hd : ¬ Drops nodes (trAt S k) tgt) (_hM : M.length ≤ 90000) (_h1 : -1000000000 ≤ now) (_h2 : now ≤ 1000000000) (_h3 : (trAt S k).delay ≤ 1000000000) :
    Calls Try.prog 14 #[.pointer (some ⟨b, 0, none⟩), .int .i64 now, msg fr tgt tx] w (SendPost B b nodes S sv wv (addM ⟨fr, tgt, tx, now + max (trAt S k).delay 0, k⟩ (copies (trAt S k)) M) k w) := by
  have lb := h.blk.lt
  have hsv : ∃ A c, sv = .slice A S.length c := by obtain ⟨A, c, h1, _⟩ := own_form' h.2.2.1; exact ⟨A, c, h1⟩
  obtain ⟨A, c, rfl⟩ := hsv
  have HH := Lib.hid h
  clear h
  have htr := Lib.hid (trouble_any (w := w.alloc (.cells #[.int .i64 fr, .int .i64 tgt, .string tx] 31)) (HH.out.only ((Only.refl NoneOf w).alloc _) (fun h => h) (fun _ _ h => h) (fun _ _ h => h)) _hn _hk)
  have hE := fun (w1 : World) (hb : Below (w.heap.size + 1) (w.alloc (.cells #[.int .i64 fr, .int .i64 tgt, .string tx] 31)) w1) o2 => Lib.hid (send_world HH.out hb o2)
  generalize trAt S k = t at *
  obtain ⟨lost, cp, dl⟩ := t
  simp only at _h3
  obtain ⟨dm, hdm⟩ : ∃ d, d = max dl 0 := ⟨_, rfl⟩
  have hdm1 : 0 ≤ dm := by omega
  have hdm2 : dm ≤ 1000000000 := by omega
  have hdm3 : (if dl < 0 then 0 else dl) = dm := by omega
  obtain ⟨cm, hcm⟩ : ∃ d, d = max cp 1 := ⟨_, rfl⟩
  have hcm3 : (if cp < 1 then 1 else cp) = cm := by omega
  obtain ⟨cn, hcn⟩ : ∃ c, c = copies ⟨lost, cp, dl⟩ := ⟨_, rfl⟩
  have hcn1 : 1 ≤ cn := by rw [hcn]; simp only [copies]; omega
  have hcn2 : cn ≤ 8 := by rw [hcn]; simp only [copies]; omega
  have hcn3 : (if 8 < cm then 8 else cm) = (cn : Int) := by rw [hcn, hcm]; simp only [copies]; omega
  rw [← hdm, ← hcn]
  have hlf : lost = false := by
    cases lost
    · rfl
    · exact absurd (Or.inl rfl) hd
  subst hlf
  have ht0 : ¬ tgt < 0 := fun h => hd (.inr (.inl h))
  have htn : tgt < nodes := Int.not_le.1 fun h => hd (.inr (.inr h))
  clear hd hcn hdm hcm
  unfold msg
  unfold tagg at htr
  go_enter Try.func14, Try.ntmps14
  go_wp2_with (first | (go_at_call 21; refine (htr.out).mono ?_; rintro e w1 ⟨rfl, hbl⟩; have hbl' : Below (w.heap.size + 1) _ _ := (by simpa using hbl); have HX := hE w1 hbl'; obtain ⟨c0, c3, f3, d0, d1, d2, hsz, hb1, HBX⟩ := send_cells HH.out hbl'; clear hbl hbl'))
  go_quiet (fail)
  go_wp2_with fail
  obtain ⟨hx1, hx2⟩ := (HX (.cells #[.bool false, .int .i64 cp, .int .i64 dl] 42)).out
  have hMk := Lib.hid hx1.2.2.2
  have hMs := Lib.hid HH.out.2.2.2
  have hR : SendRel B b nodes S (.slice A S.length c) wv M k w w1 ⟨fr, tgt, tx, now + dm, k⟩ w1.heap.size #[.int .i64 fr, .int .i64 tgt, .string tx] #[.bool false, .int .i64 cp, .int .i64 dl] 0
      (((w1.setCell ⟨b, 3, none⟩ (.int .i64 ((k : Int) + 1))).alloc (.cells #[.bool false, .int .i64 cp, .int .i64 dl] 42)).drewN nq) := by
    refine ⟨wv, hx1, .inl rfl, (hx2.mono (fun _ _ h => .inl h)).drewN _, ?_, ?_, ?_⟩
    · exact ((HBX.far (p := ⟨b, 3, none⟩) (by simp; omega) _).alloc _).drewN _
    · have h := (Blk.new (w1.setCell ⟨b, 3, none⟩ (.int .i64 ((k : Int) + 1))) 42 #[.bool false, .int .i64 cp, .int .i64 dl]).drewN nq
      simpa using h
    · simp
  have h0s : w.heap.size < w1.heap.size := hsz
  generalize hwb : w1.heap.size = h0 at *
  clear HX hx1 hx2 HBX c0 c3 f3 d0 d1 d2 hb1 hE htr
  go_loopw [44] (fun v wr => ∃ j : Nat, v = .int .i64 j ∧ j ≤ cn ∧ SendRel B b nodes S (.slice A S.length c) wv M k w w1 ⟨fr, tgt, tx, now + dm, k⟩ h0 #[.int .i64 fr, .int .i64 tgt, .string tx] #[.bool false, .int .i64 cp, .int .i64 dl] j wr) (fun v _ => cn - (intOf v).toNat)
  case atStart => exact ⟨0, rfl, by omega, hR⟩
  case round =>
    clear hR
    obtain ⟨j, rfl, hj, wv', hN, hown, hon, hb1, hb2, hsz'⟩ := hrel
    by_cases hlt : j < cn
    · have c0 := hb1.cell 0
      have c1 := hb1.cell 1
      have c2 := hb1.cell 2
      have d2 := hb2.cell 2
      simp only [List.getElem?_toArray, List.getElem?_cons_zero, List.getElem?_cons_succ] at c0 c1 c2 d2
      have l1 := hb1.lt
      have l2 := hb2.lt
      have hP := fun (W : World) (hW : HeapAt B b 2 53 #[.int .i64 nodes, .slice A S.length c, wv', .int .i64 ((k + 1 : Nat) : Int)] wv' (addM ⟨fr, tgt, tx, now + dm, k⟩ j M) W) (hBW : B ≤ W.heap.size) =>
        hpush_any ⟨fr, tgt, tx, now + dm + j, k⟩ hW (by rw [addM_len]; omega) hBW (by decide) (addM_new (p := ⟨fr, tgt, tx, now + dm, k⟩) hMs.out rfl j)
      simp only [aggP] at hP
      have HP := Lib.hid hP
      have HN := Lib.hid hN
      have HW := Lib.hid hown
      have HO := Lib.hid hon
      have HB1 := Lib.hid hb1
      have HB2 := Lib.hid hb2
      have hBr : B ≤ wr.heap.size := by have := hon.size; omega
      clear hP hN hown hon hb1 hb2
      go_wp2_with fail
      have e1 : IntKind.i64.wrap (now + dm) = now + dm := IntWalk.i64_in _ (by omega)
      have e2 : IntKind.i64.wrap (now + dm + (j : Int)) = now + dm + (j : Int) := IntWalk.i64_in _ (by omega)
      go_region_held3 (fun w' => w'.cell? ⟨w.heap.size, 0, none⟩ = some (.int .i64 fr) ∧ w'.cell? ⟨w.heap.size, 1, none⟩ = some (.int .i64 tgt) ∧ w'.cell? ⟨w.heap.size, 2, none⟩ = some (.string tx) ∧ w'.cell? ⟨h0, 2, none⟩ = some (.int .i64 dl))
        (first | go_keep | exact ⟨hk0, hk1, hk2, hk3⟩)
        (first
          | (go_at_call 23; refine (queue_any _ _).mono ?_; rintro e w' ⟨rfl, rfl⟩)
          | (go_at_call 22; refine (HP.out _ (by exact HN.out.2.1) (by exact hBr)).mono ?_; rintro e w2 ⟨rfl, wv2, hh2, ho2, hn2⟩; have HC := sw_cells HB1.out HB2.out HN.out (((Only.refl _ wr).drew).trans hn2); obtain ⟨hk0, hk1, hk2, hk3⟩ := HC; have HH2 := Lib.hid hh2; have HO2 := Lib.hid ho2; have HN2 := Lib.hid hn2; clear hh2 ho2 hn2))
      all_goals
        go_wp2_with fail
        go_roundw
        case rel =>
          exact ⟨j + 1, by go_num, by omega, send_round (fr := fr) (tgt := tgt) (tx := tx) (due := now + dm) hMs.out HN.out HW.out HO.out HB1.out HB2.out hsz' HH2.out HO2.out (((Only.refl _ wr).drew).trans HN2.out)⟩
        case measure => simp [intOf]; omega
    · go_wp2_with fail
      go_end0
      obtain rfl : j = cn := by omega
      exact ⟨rfl, wv', hN, hown, hon⟩
end Go.Proofs.Ytoaddfmbjehhoaa
