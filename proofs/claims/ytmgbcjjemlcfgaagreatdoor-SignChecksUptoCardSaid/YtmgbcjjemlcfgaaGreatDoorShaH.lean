/- What is proved here: a block of the reference's SHA-256. Conditions: the block has 64 bytes. -/
import Derived.Test.YtmgbcjjemlcfgaaGreatDoorShaG
import Derived.Test.YtmgbcjjemlcfgaaGreatDoorTail
namespace Go.Proofs.YtmgbcjjemlcfgaaGreatDoor
open Go.RowKit

theorem rot_at (x : W) (n : Nat) (c : Int) (hc : c = n) (hn : n ≤ 32) (w : World) :
    Calls Tryz.prog 64 #[.int .u32 (x.toNat : Int), .int .i64 c] w fun e w' => e = .returned (.int .u32 ((rr x n).toNat : Int)) ∧ ∃ q, w' = w.drewN q := by
  subst hc
  exact rot_any x n hn w
theorem str_get (b : ByteArray) (k : Nat) (h : k < b.size) : b.data.toList[k]? = some b[k] := by
  rw [List.getElem?_eq_getElem (by simpa using h)]
  rfl
theorem bw_mod (x : UInt8) : (x.toNat : Int) % 4294967296 = ((bw x).toNat : Int) := by
  rw [← bw_nat]; have := x.toNat_lt; omega
theorem ref_word (b : ByteArray) (i : Nat) (h0 : 4 * i < b.size) (h1 : 4 * i + 1 < b.size) (h2 : 4 * i + 2 < b.size) (h3 : 4 * i + 3 < b.size) :
    bits .or .u32 (bits .or .u32 (bits .or .u32 ((b[4 * i].toNat : Int) % 4294967296 * 16777216 % 4294967296) ((b[4 * i + 1].toNat : Int) % 4294967296 * 65536 % 4294967296)) ((b[4 * i + 2].toNat : Int) % 4294967296 * 256 % 4294967296)) ((b[4 * i + 3].toNat : Int) % 4294967296) = ((wordAt b.data.toList i).toNat : Int) := by
  rw [bw_mod, bw_mod, bw_mod, bw_mod, w_shlk _ 24 16777216 (by decide), w_shlk _ 16 65536 (by decide), w_shlk _ 8 256 (by decide), w_or, w_or, w_or,
    wordAt_of (str_get b _ h0) (str_get b _ h1) (str_get b _ h2) (str_get b _ h3)]
/-- The four blocks of the function. -/
structure RB (A B : Nat) (s : St) (b : List UInt8) (i : Nat) (w wr : World) : Prop where
  box : Blk wr A 69 s.vals.toArray
  res : Blk wr (A + 1) 69 (List.replicate 8 (Value.int .u32 0)).toArray
  ks : Blk wr B 87 (shaK.map wv).toArray
  ws : Blk wr (B + 1) 87 (wrow b i)
  le : A + 1 < B
  rest : Only NoneOf w wr
  new : w.heap.size ≤ A
theorem RB.drewN {A B : Nat} {s : St} {b : List UInt8} {i : Nat} {w wr : World} (h : RB A B s b i w wr) (n : Nat) : RB A B s b i w (wr.drewN n) := ⟨h.box, h.res, h.ks, h.ws, h.le, h.rest.drewN n, h.new⟩
theorem RB.put {A B : Nat} {s : St} {b : List UInt8} {i : Nat} {w wr : World} (h : RB A B s b i w wr) (hi : i < 64) (x : W) (hx : sched b (i + 1) = sched b i ++ [x]) : RB A B s b (i + 1) w (wr.setCell ⟨B + 1, i, none⟩ (wv x)) := by
  have h1 := h.ws.set_ i (wv x)
  rw [wrow_set hi _ hx] at h1
  have := h.le; have := h.new
  exact ⟨h.box.far (by show A ≠ B + 1; omega) _, h.res.far (by show A + 1 ≠ B + 1; omega) _, h.ks.far (by show B ≠ B + 1; omega) _, h1, h.le, h.rest.setCell (.inr (by show _ ≤ B + 1; omega)) _, h.new⟩
theorem rb_start {s : St} {b : List UInt8} {w w1 w2 : World} {zs : Array Value} {ks : List Value} (hk : ks = shaK.map wv) (hz : zs.size = 64) {z8 : Array Value} (h8 : z8 = (List.replicate 8 (Value.int .u32 0)).toArray) (hw1 : w1 = (w.alloc (.cells s.vals.toArray 69)).alloc (.cells z8 69)) (ho : Only NoneOf w1 w2) (hz0 : zs = wrow b 0) :
    RB w.heap.size w2.heap.size s b 0 w (((w2.alloc (.cells zs 87)).setCells w2.heap.size 0 ks).alloc (.cells zs 87)) := by
  subst hk h8
  have hs1 : w1.heap.size = w.heap.size + 2 := by rw [hw1]; simp
  have hle := ho.size
  have h1 : Blk w1 w.heap.size 69 s.vals.toArray := by rw [hw1]; exact (Blk.new w _ _).alloc _
  have h2 : Blk w1 (w.heap.size + 1) 69 (List.replicate 8 (Value.int .u32 0)).toArray := by
    rw [hw1]
    have := Blk.new (w.alloc (.cells s.vals.toArray 69)) 69 (List.replicate 8 (Value.int .u32 0)).toArray
    rwa [World.size_alloc] at this
  have h3 := only_setCells ((Only.refl NoneOf w2).alloc (.cells zs 87)) w2.heap.size 0 (.inr (Nat.le_refl _)) (shaK.map wv)
  have hsz : ((w2.alloc (.cells zs 87)).setCells w2.heap.size 0 (shaK.map wv)).heap.size = w2.heap.size + 1 := by
    rw [setCells_size, World.size_alloc]
  refine ⟨((h1.only ho (fun h => h)).only h3 (fun h => h)).alloc _, ((h2.only ho (fun h => h)).only h3 (fun h => h)).alloc _, (Blk.filled (xs := zs.toList) (by simpa using Blk.new w2 87 zs) _ (by simp [hz]; decide +kernel)).alloc _, ?_, by omega, ?_, Nat.le_refl _⟩
  · have := Blk.new ((w2.alloc (.cells zs 87)).setCells w2.heap.size 0 (shaK.map wv)) 87 zs
    rw [hsz] at this
    rw [hz0] at this ⊢
    exact this
  · exact Only.alloc ((Only.trans (by rw [hw1]; exact ((Only.refl NoneOf w).alloc _).alloc _) ho).trans h3) _
theorem vals_one (t : St) : t.vals.toArray.all (·.oneCell') = true := all_oneCell_toArray (fun v hv => by
  simp only [St.vals, List.mem_cons, List.not_mem_nil, or_false] at hv
  rcases hv with rfl | rfl | rfl | rfl | rfl | rfl | rfl | rfl <;> rfl)
theorem wpList_store8 {P : Program} {w : World} {ops : Array Oper} {rest : List Oper} {o : Oper} {a : Act} {Q : Exit → Act → World → Prop} (hgd : o.guard = none) (ty : TypeId) (x y : Operand) (ho : o.op = .store ty x y)
    (V : Nat) (hx : a.eval x = .pointer (some ⟨V, 0, none⟩)) {x0 x1 x2 x3 x4 x5 x6 x7 : Int} (hy : a.eval y = .agg #[.int .u32 x0, .int .u32 x1, .int .u32 x2, .int .u32 x3, .int .u32 x4, .int .u32 x5, .int .u32 x6, .int .u32 x7])
    {t : TypeId} {cs : Array Value} (hb : Blk w V t cs) (hc : cs.size = 8) (hi : (P.info? ty).map (·.size) = some 8)
    (h : ∀ w', Hid (w' = w.setCells V 0 [.int .u32 x0, .int .u32 x1, .int .u32 x2, .int .u32 x3, .int .u32 x4, .int .u32 x5, .int .u32 x6, .int .u32 x7]) → wpList P ops Q rest (a.put o.dst undef) w') : wpList P ops Q (o :: rest) a w :=
  wpList_store_mid hgd ty x y ho V 0 _ hx hy (hb.there 0 8 (by omega)) hi (by simp [Value.oneCell']) (h _ (rfl : _ = _))
/-- With the block of the eight words that turn. -/
structure RV (A B V : Nat) (s : St) (b : List UInt8) (t : St) (w wr : World) : Prop where
  rb : RB A B s b 64 w wr
  v : Blk wr V 69 t.vals.toArray
  lt : B + 1 < V
theorem RV.drewN {A B V : Nat} {s : St} {b : List UInt8} {t : St} {w wr : World} (h : RV A B V s b t w wr) (n : Nat) : RV A B V s b t w (wr.drewN n) := ⟨h.rb.drewN n, h.v, h.lt⟩
theorem RB.only {A B : Nat} {s : St} {b : List UInt8} {i : Nat} {w wr wx : World} {S : Nat → Prop} (h : RB A B s b i w wr) (ho : Only S wr wx) (hS : ∀ k, S k → B + 1 < k) : RB A B s b i w wx := by
  have := h.le; have := h.new
  exact ⟨h.box.only ho (fun e => by have := hS _ e; omega), h.res.only ho (fun e => by have := hS _ e; omega), h.ks.only ho (fun e => by have := hS _ e; omega), h.ws.only ho (fun e => by have := hS _ e; omega), h.le,
    h.rest.trans' ho (fun i hi e => by have := hS _ e; omega), h.new⟩
theorem rv_start {A B : Nat} {s : St} {b : List UInt8} {w wr : World} {zs : Array Value} {ks : List Value} (hk : ks = s.vals) (hz : zs.size = 8) (h : RB A B s b 64 w wr) : RV A B wr.heap.size s b s w ((wr.alloc (.cells zs 69)).setCells wr.heap.size 0 ks) := by
  subst hk
  have ho := only_setCells ((Only.refl NoneOf wr).alloc (.cells zs 69)) wr.heap.size 0 (.inr (Nat.le_refl _)) s.vals
  exact ⟨h.only ho (fun _ e => e.elim), Blk.filled (xs := zs.toList) (by simpa using Blk.new wr 69 zs) _ (by simp [hz]; rfl), h.ws.lt⟩
theorem RV.put {A B V : Nat} {s : St} {b : List UInt8} {t t' : St} {w wr : World} (h : RV A B V s b t w wr) (ks : List Value) (hk : ks = t'.vals) : RV A B V s b t' w (wr.setCells V 0 ks) := by
  subst hk
  have := h.lt
  exact ⟨h.rb.only (only_setCells (Only.refl (· = V) wr) V 0 (.inl rfl) t'.vals) (fun k e => by rw [e]; exact h.lt), h.v.filled _ rfl, h.lt⟩
theorem cons_eq {a b : Value} {l m : List Value} (h : a = b) (h' : l = m) : a :: l = b :: m := by rw [h, h']
/-- In the last loop. -/
structure RW (A V : Nat) (s t : St) (k : Nat) (w wr : World) : Prop where
  box : Blk wr A 69 (part s t k).toArray
  res : Blk wr (A + 1) 69 (List.replicate 8 (Value.int .u32 0)).toArray
  v : Blk wr V 69 t.vals.toArray
  lt : A + 1 < V
  rest : Only NoneOf w wr
  new : w.heap.size ≤ A
theorem RV.last {A B V : Nat} {s : St} {b : List UInt8} {t : St} {w wr : World} (h : RV A B V s b t w wr) : RW A V s t 0 w wr := ⟨h.rb.box, h.rb.res, h.v, by have := h.rb.le; have := h.lt; omega, h.rb.rest, h.rb.new⟩
theorem RW.put {A V k : Nat} {s t : St} {w wr : World} {x : W} (h : RW A V s t k w wr) (hs : (part s t k).toArray.setIfInBounds k (wv x) = (part s t (k + 1)).toArray) : RW A V s t (k + 1) w (wr.drew.setCell ⟨A, k, none⟩ (.int .u32 (x.toNat : Int))) := by
  have h1 := (Blk.drew h.box).set_ k (wv x)
  rw [hs] at h1
  have := h.lt; have := h.new
  exact ⟨h1, (Blk.drew h.res).far (by show A + 1 ≠ A; omega) _, (Blk.drew h.v).far (by show V ≠ A; omega) _, h.lt, (h.rest.drew).setCell (.inr h.new) _, h.new⟩
set_option maxRecDepth 100000 in
set_option maxHeartbeats 1000000 in
theorem block_any (s : St) (b : ByteArray) (hb : b.size = 64) (w : World) :
    Calls Tryz.prog 49 #[.agg s.vals.toArray, .string b] w fun e w' => e = .returned (.agg (comp s b.data.toList).vals.toArray) ∧ Only NoneOf w w' := by
  have HB := Lib.hid hb
  clear hb
  go_enter Tryz.func49, Tryz.ntmps49
  go_wp2_with fail
  refine calls_gen (fun X => X = (w.alloc (.cells s.vals.toArray 69)).alloc (.cells (List.replicate 8 (Value.int .u32 0)).toArray 69)) rfl ?_
  intro w1 hw1
  have HW1 := Lib.hid hw1
  clear hw1
  refine (rounds_any _).mono ?_
  rintro e w2 ⟨rfl, ho2⟩
  have HO2 := Lib.hid ho2
  clear ho2
  have hk : (shaK.map wv).length = 64 := by decide +kernel
  have hzk : (shaK.map wv).toArray.size = 64 := hk
  have hik : (Tryz.prog.info? 87).map (·.size) = some (shaK.map wv).toArray.size := by rw [hzk]; kernel_rfl
  have hnk : (shaK.map wv).toArray.all (·.oneCell') = true := all_oneCell_toArray (fun v hv => by obtain ⟨x, _, rfl⟩ := List.mem_map.1 hv; rfl)
  have HK := Lib.hid hk
  have HIK := Lib.hid hik
  have HNK := Lib.hid hnk
  clear hk hzk hik hnk
  have tok1 : True := trivial
  go_wp2_with (have _t := tok1; refine wpList_store_mid rfl 87 (.tmp 5) (.tmp 17) rfl w2.heap.size 0 (shaK.map wv).toArray rfl rfl (there_new w2 _ _ _ (by simp [HK.out])) HIK.out HNK.out ?_; clear tok1 _t)
  refine wp_gen (RB w.heap.size w2.heap.size s b.data.toList 0 w) (rb_start (by simp) rfl rfl HW1.out HO2.out rfl) ?_
  simp only [setCells_size, World.size_alloc]
  obtain ⟨B, hB⟩ : ∃ B, B = w2.heap.size := ⟨_, rfl⟩
  rw [← hB]
  intro W3 h3
  have H3 := Lib.hid h3
  clear h3 HW1 HO2 HK HIK HNK hB
  go_loopw [7] (fun v wr => ∃ i : Nat, v = .int .i64 i ∧ i ≤ 64 ∧ RB w.heap.size B s b.data.toList i w wr) (fun v _ => 64 - (intOf v).toNat)
  case atStart => exact ⟨0, rfl, by omega, H3.out⟩
  case round =>
    clear H3
    obtain ⟨i, rfl, hi, h4⟩ := hrel
    by_cases h64 : i < 64
    · by_cases h16 : i < 16
      · have hl : b.data.toList.length = 64 := by simpa using HB.out
        have cz := (h4.ws.cell i).trans (wrow_zero (Nat.le_refl i) h64)
        have fz := h4.ws.frozen i
        have H4 := Lib.hid h4
        have hsz : b.size = 64 := HB.out
        have i0 : IntKind.i64.wrap (4 * (i : Int)) = 4 * (i : Int) := IntWalk.i64_in _ (by omega)
        have i1 : IntKind.i64.wrap (4 * (i : Int) + 1) = 4 * (i : Int) + 1 := IntWalk.i64_in _ (by omega)
        have i2 : IntKind.i64.wrap (4 * (i : Int) + 2) = 4 * (i : Int) + 2 := IntWalk.i64_in _ (by omega)
        have i3 : IntKind.i64.wrap (4 * (i : Int) + 3) = 4 * (i : Int) + 3 := IntWalk.i64_in _ (by omega)
        have n0 : (4 * (i : Int)).toNat = 4 * i := by omega
        have n1 : (4 * (i : Int) + 1).toNat = 4 * i + 1 := by omega
        have n2 : (4 * (i : Int) + 2).toNat = 4 * i + 2 := by omega
        have n3 : (4 * (i : Int) + 3).toNat = 4 * i + 3 := by omega
        have p0 : 0 ≤ 4 * (i : Int) := by omega
        have p1 : 0 ≤ 4 * (i : Int) + 1 := by omega
        have p2 : 0 ≤ 4 * (i : Int) + 2 := by omega
        have p3 : 0 ≤ 4 * (i : Int) + 3 := by omega
        have q0 : 4 * i < b.size := by omega
        have q1 : 4 * i + 1 < b.size := by omega
        have q2 : 4 * i + 2 < b.size := by omega
        have q3 : 4 * i + 3 < b.size := by omega
        have r0 : 4 * (i : Int) < (b.size : Int) := by omega
        have r1 : 4 * (i : Int) + 1 < (b.size : Int) := by omega
        have r2 : 4 * (i : Int) + 2 < (b.size : Int) := by omega
        have r3 : 4 * (i : Int) + 3 < (b.size : Int) := by omega
        clear h4 hl hsz
        go_wp2_with fail
        go_region
        go_wp2_with fail
        go_roundw
        case rel =>
          refine ⟨i + 1, by go_num, by omega, ?_⟩
          rw [ref_word b i q0 q1 q2 q3]
          exact (H4.out.drewN 1).put h64 _ (sched_low h16)
        case measure => simp [intOf]; omega
      · have hk : 16 ≤ i := by omega
        clear h16
        obtain ⟨x, ex⟩ : ∃ x, x = (sched b.data.toList i).getD (i - 15) 0 := ⟨_, rfl⟩
        obtain ⟨y, ey⟩ : ∃ y, y = (sched b.data.toList i).getD (i - 2) 0 := ⟨_, rfl⟩
        obtain ⟨u, eu⟩ : ∃ u, u = (sched b.data.toList i).getD (i - 16) 0 := ⟨_, rfl⟩
        obtain ⟨v, ev⟩ : ∃ v, v = (sched b.data.toList i).getD (i - 7) 0 := ⟨_, rfl⟩
        have hs : sched b.data.toList (i + 1) = sched b.data.toList i ++ [u + ssig x 7 18 3 + v + ssig y 17 19 10] := by
          rw [ex, ey, eu, ev]; exact sched_high hk
        have cx : wr.cell? ⟨B + 1, i - 15, none⟩ = some (.int .u32 (x.toNat : Int)) := by rw [ex]; exact (h4.ws.cell _).trans (wrow_get (by omega))
        have cy : wr.cell? ⟨B + 1, i - 2, none⟩ = some (.int .u32 (y.toNat : Int)) := by rw [ey]; exact (h4.ws.cell _).trans (wrow_get (by omega))
        have cu : wr.cell? ⟨B + 1, i - 16, none⟩ = some (.int .u32 (u.toNat : Int)) := by rw [eu]; exact (h4.ws.cell _).trans (wrow_get (by omega))
        have cv : wr.cell? ⟨B + 1, i - 7, none⟩ = some (.int .u32 (v.toNat : Int)) := by rw [ev]; exact (h4.ws.cell _).trans (wrow_get (by omega))
        have cz := (h4.ws.cell i).trans (wrow_zero (Nat.le_refl i) h64)
        have fz := h4.ws.frozen i
        have H4 := Lib.hid h4
        have HS := Lib.hid hs
        clear h4 hs ex ey eu ev
        have i15 : IntKind.i64.wrap ((i : Int) - 15) = (i : Int) - 15 := IntWalk.i64_in _ (by omega)
        have i2 : IntKind.i64.wrap ((i : Int) - 2) = (i : Int) - 2 := IntWalk.i64_in _ (by omega)
        have i16 : IntKind.i64.wrap ((i : Int) - 16) = (i : Int) - 16 := IntWalk.i64_in _ (by omega)
        have i7 : IntKind.i64.wrap ((i : Int) - 7) = (i : Int) - 7 := IntWalk.i64_in _ (by omega)
        have n15 : ((i : Int) - 15).toNat = i - 15 := by omega
        have n2 : ((i : Int) - 2).toNat = i - 2 := by omega
        have n16 : ((i : Int) - 16).toNat = i - 16 := by omega
        have n7 : ((i : Int) - 7).toNat = i - 7 := by omega
        have p15 : 0 ≤ (i : Int) - 15 := by omega
        have p2 : 0 ≤ (i : Int) - 2 := by omega
        have p16 : 0 ≤ (i : Int) - 16 := by omega
        have p7 : 0 ≤ (i : Int) - 7 := by omega
        have q15 : (i : Int) - 15 < 64 := by omega
        have q2 : (i : Int) - 2 < 64 := by omega
        have q16 : (i : Int) - 16 < 64 := by omega
        have q7 : (i : Int) - 7 < 64 := by omega
        have R7 := Lib.hid (rot_at x 7 7 rfl (by omega))
        have R18 := Lib.hid (rot_at x 18 18 rfl (by omega))
        have R17 := Lib.hid (rot_at y 17 17 rfl (by omega))
        have R19 := Lib.hid (rot_at y 19 19 rfl (by omega))
        go_wp2_with fail
        refine wp_region_quiet_tail 29 (by kernel_rfl) (by kernel_rfl) ?_
        simp only [List.take_succ_cons, List.take_zero, List.drop_succ_cons, List.drop_zero]
        repeat (go_big_quiet_step (first
          | ((with_reducible refine Calls.quiet_of (R7.out _)))
          | ((with_reducible refine Calls.quiet_of (R18.out _)))
          | ((with_reducible refine Calls.quiet_of (R17.out _)))
          | ((with_reducible refine Calls.quiet_of (R19.out _)))))
        refine wpQuiet_nil ?_
        intro nq
        go_wp2_with fail
        go_roundw
        case rel =>
          refine ⟨i + 1, by go_num, by omega, ?_⟩
          rw [w_shrk x 3 8 (by decide), w_shrk y 10 1024 (by decide), w_xor, w_xor, w_xor, w_xor, w_sum4]
          exact (H4.out.drewN nq).put h64 _ HS.out
        case measure => simp [intOf]; omega
    · obtain rfl : i = 64 := by omega
      have H4 := Lib.hid h4
      clear h4
      have i53 : (Tryz.prog.info? 69).map (·.size) = some 8 := by kernel_rfl
      have I53 := Lib.hid i53
      clear i53
      have tok1 : True := trivial
      have tok2 : True := trivial
      go_wp2_with (first
        | (have _t := tok1; refine wpList_load_row rfl 69 (.tmp 2) rfl w.heap.size rfl 69 s.vals.toArray (0, 0) _ H4.out.box Tryz.underlying69 rfl I53.out ?_; clear tok1 _t)
        | (have _t := tok2; refine wpList_store_mid rfl 69 (.tmp 10) (.tmp 92) rfl wr.heap.size 0 s.vals.toArray rfl rfl (there_new wr 69 _ 8 (Nat.le_refl _)) I53.out (vals_one s) ?_; clear tok2 _t))
      refine wp_gen (RV w.heap.size B wr.heap.size s b.data.toList s w) ?hR ?_
      case hR =>
        refine rv_start ?_ ?_ H4.out
        · first | rfl | simp
        · rfl
      obtain ⟨V, hV⟩ : ∃ V, V = wr.heap.size := ⟨_, rfl⟩
      rw [← hV]
      intro W4 h5
      have H5 := Lib.hid h5
      clear h5 H4 hV
      go_loopw [11] (fun v wr => ∃ (j : Nat) (t : St), t = rnds s (sched b.data.toList 64) j ∧ v = .int .i64 j ∧ j ≤ 64 ∧ RV w.heap.size B V s b.data.toList t w wr) (fun v _ => 64 - (intOf v).toNat)
      case atStart => exact ⟨0, s, rfl, rfl, by omega, H5.out⟩
      case round =>
        clear H5
        obtain ⟨j, t, ht, rfl, hj, h6⟩ := hrel
        by_cases h64 : j < 64
        · obtain ⟨kk, ek⟩ : ∃ kk, kk = shaK.getD j 0 := ⟨_, rfl⟩
          obtain ⟨ww, ew⟩ : ∃ ww, ww = (sched b.data.toList 64).getD j 0 := ⟨_, rfl⟩
          have ht' : rnd t kk ww = rnds s (sched b.data.toList 64) (j + 1) := by rw [ht, ek, ew]; rfl
          have cw : wr.cell? ⟨B + 1, j, none⟩ = some (.int .u32 (ww.toNat : Int)) := by rw [ew]; exact (h6.rb.ws.cell _).trans (wrow_get h64)
          have ck : wr.cell? ⟨B, j, none⟩ = some (.int .u32 (kk.toNat : Int)) := by rw [ek]; exact (h6.rb.ks.cell _).trans (krow_get h64)
          have e0 : wr.cell? ⟨V, 0, none⟩ = some (.int .u32 (t.a.toNat : Int)) := (h6.v.cell 0).trans rfl
          have e1 : wr.cell? ⟨V, 1, none⟩ = some (.int .u32 (t.b.toNat : Int)) := (h6.v.cell 1).trans rfl
          have e2 : wr.cell? ⟨V, 2, none⟩ = some (.int .u32 (t.c.toNat : Int)) := (h6.v.cell 2).trans rfl
          have e3 : wr.cell? ⟨V, 3, none⟩ = some (.int .u32 (t.d.toNat : Int)) := (h6.v.cell 3).trans rfl
          have e4 : wr.cell? ⟨V, 4, none⟩ = some (.int .u32 (t.e.toNat : Int)) := (h6.v.cell 4).trans rfl
          have e5 : wr.cell? ⟨V, 5, none⟩ = some (.int .u32 (t.f.toNat : Int)) := (h6.v.cell 5).trans rfl
          have e6 : wr.cell? ⟨V, 6, none⟩ = some (.int .u32 (t.g.toNat : Int)) := (h6.v.cell 6).trans rfl
          have e7 : wr.cell? ⟨V, 7, none⟩ = some (.int .u32 (t.h.toNat : Int)) := (h6.v.cell 7).trans rfl
          have hth : ∀ q, Blk (wr.drewN q) V 69 t.vals.toArray := fun q => h6.v.drewN q
          have HTH := Lib.hid hth
          have HT := Lib.hid ht'
          have H6 := Lib.hid h6
          clear ht ek ew ht' h6 hth
          have R6 := Lib.hid (rot_at t.e 6 6 rfl (by omega))
          have R11 := Lib.hid (rot_at t.e 11 11 rfl (by omega))
          have R25 := Lib.hid (rot_at t.e 25 25 rfl (by omega))
          have R2 := Lib.hid (rot_at t.a 2 2 rfl (by omega))
          have R13 := Lib.hid (rot_at t.a 13 13 rfl (by omega))
          have R22 := Lib.hid (rot_at t.a 22 22 rfl (by omega))
          have tok1 : True := trivial
          go_wp2_with fail
          go_quiet (first
            | ((with_reducible refine Calls.quiet_of (R6.out _)))
            | ((with_reducible refine Calls.quiet_of (R11.out _)))
            | ((with_reducible refine Calls.quiet_of (R25.out _))))
          go_wp2_with fail
          go_quiet (first
            | ((with_reducible refine quiet_again R2.out))
            | ((with_reducible refine quiet_again R13.out))
            | ((with_reducible refine quiet_again R22.out)))
          go_wp2_with (have _t := tok1; refine wpList_store8 rfl 69 (.tmp 10) (.tmp 174) rfl V rfl rfl (HTH.out _) rfl I53.out ?_; clear tok1 _t; intro w9 hw9)
          go_roundw
          case rel =>
            refine ⟨j + 1, rnd t kk ww, HT.out, by go_num, by omega, ?_⟩
            rw [hw9.out]
            refine (H6.out.drewN _).put _ ?_
            refine cons_eq ?_ (cons_eq rfl (cons_eq rfl (cons_eq rfl (cons_eq ?_ rfl))))
            · show Value.int IntKind.u32 _ = Value.int IntKind.u32 ((t.h + (rr t.e 6 ^^^ rr t.e 11 ^^^ rr t.e 25) + ((t.e &&& t.f) ^^^ (~~~t.e &&& t.g)) + kk + ww + ((rr t.a 2 ^^^ rr t.a 13 ^^^ rr t.a 22) + ((t.a &&& t.b) ^^^ (t.a &&& t.c) ^^^ (t.b &&& t.c)))).toNat : Int)
              simp only [w_not', w_and, w_xor]
              congr 1
              simp only [BitVec.toNat_add]
              omega
            · show Value.int IntKind.u32 _ = Value.int IntKind.u32 ((t.d + (t.h + (rr t.e 6 ^^^ rr t.e 11 ^^^ rr t.e 25) + ((t.e &&& t.f) ^^^ (~~~t.e &&& t.g)) + kk + ww)).toNat : Int)
              simp only [w_not', w_and, w_xor]
              congr 1
              simp only [BitVec.toNat_add]
              omega
          case measure => simp [intOf]; omega
        · obtain rfl : j = 64 := by omega
          have hcomp : comp s b.data.toList = s.add t := by rw [ht]; rfl
          have HC := Lib.hid hcomp
          have H6 := Lib.hid h6
          clear ht hcomp h6
          go_wp2_with fail
          go_loopw [16] (fun v wr => ∃ k : Nat, v = .int .i64 k ∧ k ≤ 8 ∧ RW w.heap.size V s t k w wr) (fun v _ => 8 - (intOf v).toNat)
          case atStart => exact ⟨0, rfl, by omega, H6.out.last⟩
          case round =>
            clear H6
            obtain ⟨k, rfl, hk, h7⟩ := hrel
            by_cases h8 : k < 8
            · obtain ⟨x, ex⟩ : ∃ x, x = sw t k := ⟨_, rfl⟩
              obtain ⟨y, ey⟩ : ∃ y, y = sw s k := ⟨_, rfl⟩
              have cx : wr.cell? ⟨V, k, none⟩ = some (.int .u32 (x.toNat : Int)) := by rw [ex]; exact (h7.v.cell k).trans (vals_get t h8)
              have cy : wr.cell? ⟨w.heap.size, k, none⟩ = some (.int .u32 (y.toNat : Int)) := by rw [ey]; exact (h7.box.cell k).trans (part_get s t h8)
              have fz := h7.box.frozen k
              have hset := part_set s t h8
              rw [← ex, ← ey] at hset
              have HSET := Lib.hid hset
              have H7 := Lib.hid h7
              clear hset h7 ex ey
              go_wp2_with fail
              go_region
              go_wp2_with fail
              go_roundw
              case rel =>
                refine ⟨k + 1, by go_num, by omega, ?_⟩
                rw [w_add]
                exact H7.out.put HSET.out
              case measure => simp [intOf]; omega
            · obtain rfl : k = 8 := by omega
              have HB7 := Lib.hid h7.box
              have HR7 := Lib.hid h7
              have hz8 : (part s t 8).toArray.size = 8 := rfl
              have hone : (part s t 8).toArray.all (·.oneCell') = true := vals_one (s.add t)
              have HONE := Lib.hid hone
              clear h7 hz8 hone
              have tok1 : True := trivial
              have tok2 : True := trivial
              go_wp2_with (first
                | (have _t := tok1; refine wpList_load_row rfl 69 (.tmp 2) rfl w.heap.size rfl 69 (part s t 8).toArray (0, 0) _ HB7.out Tryz.underlying69 rfl I53.out ?_; clear tok1 _t)
                | (have _t := tok2; refine wpList_store_mid rfl 69 (.tmp 4) (.tmp 188) rfl (w.heap.size + 1) 0 (part s t 8).toArray rfl rfl (HR7.out.res.there 0 8 (Nat.le_refl _)) I53.out HONE.out ?_; clear tok2 _t))
              have hbf := HR7.out.res.filled (part s t 8).toArray.toList rfl
              refine bodyPost_ret (results_blk rfl rfl hbf Tryz.underlying69 rfl I53.out) rfl ⟨?_, only_setCells HR7.out.rest _ _ (.inr (by omega)) _⟩
              rw [HC.out]
              rfl
end Go.Proofs.YtmgbcjjemlcfgaaGreatDoor
