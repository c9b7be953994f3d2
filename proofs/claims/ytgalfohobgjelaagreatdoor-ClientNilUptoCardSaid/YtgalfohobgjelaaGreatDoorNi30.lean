/- What is proved here: several parts. the leaves of events. Conditions: the events are well and short, and there are few. · votes for a head, by bits. Conditions: the numbers are words of 16 bits, the head is well. · a client notes that its bid was sent. Conditions: the bid is well and short; the table of powers of ten lies. · the steps to a leaf, by the program, the lowest one first. Conditions: the index lies below the size, which is at most 1000. -/
import Derived.Test.YtgalfohobgjelaaGreatDoorNi21
import Derived.Test.YtgalfohobgjelaaGreatDoorNi22
import Derived.Test.YtgalfohobgjelaaGreatDoorNi24
import Derived.Test.YtgalfohobgjelaaGreatDoorNi28
import Derived.Test.YtgalfohobgjelaaGreatDoorNi29
import Derived.BigQuiet
import Derived.BigRegion
namespace Go.Proofs.YtgalfohobgjelaaGreatDoor
open Go.RowKit Go.Shelf
attribute [local go_sem ↓ high] evLoad_eq
theorem ba_ext {t : ByteArray} {l : List UInt8} (h : t.data.toList = l) : t = ⟨l.toArray⟩ := by
  cases t with
  | mk d => simp only at h; subst h; simp
end Go.Proofs.YtgalfohobgjelaaGreatDoor
namespace Go.Proofs.YtgalfohobgjelaaGreatDoor
open Go.RowKit Go.Shelf
attribute [local go_sem ↓ high] vtBs1_eq hdLoad_eq
def bitW (m id : Nat) : Bool := decide (m / 2 ^ id % 2 = 1)
theorem bit16 (y id : Nat) : (bits .and .u16 ((y : Int) / 2 ^ id) 1 == 1) = bitW y id := by
  have e : (y : Int) / 2 ^ id = ((y / 2 ^ id : Nat) : Int) := by
    rw [Int.natCast_ediv]; congr 1
  have h1 : ∀ z : Nat, bits .and .u16 (z : Int) 1 = ((z % 2 : Nat) : Int) := fun z => by
    show IntKind.u16.wrap ((BitVec.ofInt 16 (z : Int) &&& BitVec.ofInt 16 1).toNat : Int) = _
    have e : (BitVec.ofInt 16 (z : Int) &&& BitVec.ofInt 16 1).toNat = z % 2 := by
      rw [BitVec.toNat_and, show (BitVec.ofInt 16 1).toNat = 1 from by decide, Nat.and_one_is_mod, show BitVec.ofInt 16 (z : Int) = BitVec.ofNat 16 z by simp, BitVec.toNat_ofNat]
      omega
    rw [e]
    simp [IntKind.wrap, IntKind.bits, IntKind.signed]
    omega
  rw [e, h1, bitW, Bool.eq_iff_iff]
  simp
  omega
noncomputable def voteW (odd : Nat) (h : Hd) (id : Nat) : Vt := voteOf (id : Int) (secI (id : Int) + if bitW odd id then 1 else 0) h
noncomputable def votesN (yes odd : Nat) (h : Hd) : Nat → List Vt
  | 0 => []
  | n + 1 => votesN yes odd h n ++ if bitW yes (n + 1) then [voteW odd h (n + 1)] else []
noncomputable def votesW (d : Wd) (h : Hd) (yes odd : Nat) : List Vt := votesN yes odd h d.n
theorem votesN_len (yes odd : Nat) (h : Hd) : ∀ n, (votesN yes odd h n).length ≤ n
  | 0 => Nat.le_refl _
  | n + 1 => by
    have := votesN_len yes odd h n
    simp only [votesN, List.length_append]
    split <;> simp <;> omega
theorem votesW_len (d : Wd) (h : Hd) (yes odd : Nat) : (votesW d h yes odd).length ≤ 7 := by
  have := votesN_len yes odd h d.n
  have : d.n ≤ 7 := by unfold Wd.n; omega
  unfold votesW
  omega
theorem votesN_ok (yes odd : Nat) (h : Hd) (ok : h.Ok) : ∀ n, n ≤ 100 → VtsOk (votesN yes odd h n)
  | 0, _ => fun v hv => by simp [votesN] at hv
  | n + 1, hn => fun v hv => by
    simp only [votesN, List.mem_append] at hv
    rcases hv with hv | hv
    · exact votesN_ok yes odd h ok n (by omega) v hv
    · split at hv
      · simp only [List.mem_singleton] at hv
        subst hv
        exact vote_ok ⟨by omega, by omega⟩ ok
      · simp at hv
/-- What the loop keeps. -/
structure VwS (w : World) (D H : Nat) (d : Wd) (h : Hd) (kA : Option Addr) (kc : Nat) (yes odd k : Nat) (ov : Value) (W : World) : Prop where
  wd : Blk W D tWd (wdC d kA kc)
  hd : Blk W H 37 (hdC h).toArray
  own : VtOwn W w.heap.size ov (votesN yes odd h k).length (votesN yes odd h k)
  only : Only NoneOf w W
set_option maxRecDepth 100000 in
set_option maxHeartbeats 1000000 in
theorem wvotes_any (d : Wd) (hd : d.Ok) (h : Hd) (ok : h.Ok) (yes odd : Nat) (_hy : yes < 65536) (_ho : odd < 65536) (kA : Option Addr) (kc : Nat) (w : World) : Calls Tryz.prog 14 #[.agg (wdC d kA kc), .agg (hdC h).toArray, .int .u16 (yes : Int), .int .u16 (odd : Int)] w fun e' w' => ∃ rv, e' = .returned rv ∧ VtOwn w' w.heap.size rv (votesW d h yes odd).length (votesW d h yes odd) ∧ Only NoneOf w w' := by
  obtain ⟨ie, z, hie, hsz, hz, hzc, hby⟩ := vt_info
  obtain ⟨D, eD⟩ : ∃ D, D = w.heap.size := ⟨_, rfl⟩
  obtain ⟨H, eH⟩ : ∃ H, H = D + 1 := ⟨_, rfl⟩
  have hoff := hd.off
  have hs0 : VwS w D H d h kA kc yes odd 0 (.slice none 0 0) ((w.alloc (.cells (wdC d kA kc) tWd)).alloc (.cells (hdC h).toArray 37)) := by
    have h1 := Blk.new (w.alloc (.cells (wdC d kA kc) tWd)) 37 (hdC h).toArray
    rw [World.size_alloc, ← eD, ← eH] at h1
    exact ⟨by rw [eD]; exact (Blk.new w _ _).alloc _, h1, ⟨rfl, .inl ⟨rfl, rfl⟩⟩, ((Only.refl _ _).alloc _).alloc _⟩
  have HS0 := Lib.hid hs0
  have HIE := Lib.hid hie
  have HSZ := Lib.hid hsz
  have HZ := Lib.hid hz
  have HZC := Lib.hid hzc
  have HBY := Lib.hid hby
  have HED := Lib.hid eD
  have HOKH := Lib.hid ok
  have HEH := Lib.hid eH
  have hdn : d.n ≤ 7 := by unfold Wd.n; omega
  have hdn2 : 1 + (d.off : Int) % 7 = (d.n : Int) := by unfold Wd.n; omega
  clear hs0 hie hsz hz hzc hby eD eH ok
  go_enter Tryz.func14, Tryz.ntmps14
  go_wp2_with fail
  refine wp_gen (VwS w D H d h kA kc yes odd 0 (.slice none 0 0)) HS0.out ?_
  intro Y hY
  have HY := Lib.hid hY
  clear hY HS0
  rw [← HED.out, ← HEH.out]
  clear HED HEH
  go_loopw [9, 10] (fun ov i wr => ∃ q : Nat, i = .int .i64 (q : Int) ∧ 1 ≤ q ∧ q ≤ d.n + 1 ∧ VwS w D H d h kA kc yes odd (q - 1) ov wr) (fun _ i _ => 9 - (intOf i).toNat)
  case atStart => exact ⟨1, rfl, by omega, by omega, HY.out⟩
  case round =>
    clear HY
    obtain ⟨q, rfl, hq1, hq2, hS⟩ := hrel
    obtain ⟨N, eN⟩ : ∃ N, N = (votesN yes odd h (q - 1)).length := ⟨_, rfl⟩
    have hN : N ≤ 8 := by have := votesN_len yes odd h (q - 1); omega
    have c0 := hS.wd.cell 0
    simp only [List.getElem?_toArray, List.getElem?_cons_zero] at c0
    have hown := hS.own
    rw [← eN] at hown
    have hq8 : q ≤ 8 := by omega
    by_cases hlt : q ≤ d.n
    · have ik : (q : Int) ≤ 1 + (d.off : Int) % 7 := by omega
      have hsucc : votesN yes odd h q = votesN yes odd h (q - 1) ++ if bitW yes q then [voteW odd h q] else [] := by
        obtain ⟨m, rfl⟩ : ∃ m, q = m + 1 := ⟨q - 1, by omega⟩
        rfl
      have by1 := bit16 yes q
      have by2 := bit16 odd q
      have qs : q + 1 - 1 = q := by omega
      cases hb : bitW yes q with
      | false =>
        rw [hb] at hsucc by1
        have hS2 : VwS w D H d h kA kc yes odd q u9 wr := ⟨hS.wd, hS.hd, by rw [hsucc]; simpa using hS.own, hS.only⟩
        have HS2 := Lib.hid hS2
        clear hS hS2 hsucc hown eN by2
        go_wp2_with fail
        go_roundw
        case rel => exact ⟨q + 1, by go_num, by omega, by omega, by rw [qs]; exact HS2.out⟩
        case measure => simp [intOf]; omega
      | true =>
        rw [hb] at hsucc by1
        obtain ⟨sc, esc⟩ : ∃ sc : Int, sc = secI (q : Int) + if bitW odd q then 1 else 0 := ⟨_, rfl⟩
        obtain ⟨V, eV⟩ : ∃ V, V = voteW odd h q := ⟨_, rfl⟩
        have vo : V.Ok := by rw [eV]; exact vote_ok ⟨by omega, by omega⟩ HOKH.out
        have hvt : ∀ W, Calls Tryz.prog 41 #[.int .i64 (q : Int), .int .i64 sc, .agg (hdC h).toArray] W fun e w' => e = .returned (.agg (vtC V).toArray) ∧ Only NoneOf W w' := fun W => by rw [eV, esc]; exact rqvote_any _ _ h HOKH.out W
        have hsec : ∀ W, Calls Tryz.prog 39 #[.int .i64 (q : Int)] W fun e' w' => e' = .returned (.int .i64 (1000 + 7 * (q : Int))) ∧ w' = W := fun W => secret_any (q : Int) (by omega) (by omega) W
        have hbs := bs1_run V vo.head.root
        have htk : (votesN yes odd h q).flatMap vtC = (votesN yes odd h (q - 1)).flatMap vtC ++ vtC V := by
          rw [hsucc, if_pos rfl, List.flatMap_append, eV]
          simp
        have hlen : (votesN yes odd h q).length = N + 1 := by rw [hsucc, if_pos rfl, List.length_append, ← eN]; rfl
        have HS := Lib.hid hS
        have HOWN := Lib.hid hown
        have HVT := Lib.hid hvt
        have HSEC := Lib.hid hsec
        have HTK := Lib.hid htk
        have HLEN := Lib.hid hlen
        have HVO := Lib.hid vo
        have hld : (hdLoad (.pointer (some ⟨H, 0, none⟩))).run Tryz.prog wr = .ok (.agg (hdC h).toArray) wr := hd_load (blk_range hS.hd) HOKH.out.root
        have HESC := Lib.hid esc
        clear hS hown hvt hsec htk hlen vo eV eN hsucc esc
        cases hbo : bitW odd q with
        | false =>
          rw [hbo] at by2
          have es := HESC.out
          rw [hbo] at es
          obtain rfl : sc = 1000 + 7 * (q : Int) := by rw [es]; simp [secI]
          clear es
          go_wp2_with fail
          refine (HSEC.out _).mono ?_
          rintro e0 w0 ⟨rfl, rfl⟩
          go_wp2_with fail
          refine (HVT.out _).mono ?_
          rintro e1 w1 ⟨rfl, ho1⟩
          have hsz1 := (HS.out.only.trans ho1).size
          have HO1 := Lib.hid ho1
          have HOW1 := Lib.hid (own_only HOWN.out ho1 (fun _ _ e => e))
          clear ho1 c0 hld
          go_wp2_with (at_builtin; refine wpList_append_lies _ rfl _ _ 32 rfl w.heap.size 43 ie z 36 ie.bytes Tryz.underlying32 HIE.out HZ.out HSZ.out rfl HZC.out (by omega) u9 N ((votesN yes odd h (q - 1)).flatMap vtC) rfl (World.ownsRow.alloc HOW1.out _) _ 1 1 (vtC V) rfl (by rw [vtC_len HVO.out.head.root]) (World.news_of_block (cs := (vtC V).toArray) (t := 43) (fr := (0, 0)) (NewB.new _ V)) (vtC_one V) (by omega) (by rw [maxLen_val]; omega) (by have := HBY.out; exact Nat.le_trans (Nat.mul_le_mul (show N + 1 ≤ 40 by omega) this) (by omega)) (by simp; omega) _ rfl ?_; intro g3 cap3 w3 hown3 hgrow3 hat3 hlt3)
          have hnew : VwS w D H d h kA kc yes odd q (.slice (some ⟨g3, 0, none⟩) (N + 1) cap3) w3 := by
            have hne : ∀ b cs t, Blk w1 b t cs → t ≠ 43 → u9.ownBlock ≠ some b := fun b cs t hb ht => own_blk_ne HOW1.out hb (Ne.symm ht)
            have b1 := HS.out.wd.only HO1.out (fun e => e)
            have b2 := HS.out.hd.only HO1.out (fun e => e)
            refine ⟨(b1.alloc _).grown hgrow3 (Ne.symm (hne _ _ _ b1 (by decide))), (b2.alloc _).grown hgrow3 (Ne.symm (hne _ _ _ b2 (by decide))), ?_, ((HS.out.only.trans HO1.out).alloc _).grown hgrow3 (fun j e => .inr (own_ge HOW1.out e).1)⟩
            unfold VtOwn
            rw [HTK.out, HLEN.out]
            exact hown3
          have HNEW := Lib.hid hnew
          clear hnew hown3 hgrow3 hat3 hlt3 hbs
          go_wp2_with fail
          go_roundw
          case rel => exact ⟨q + 1, by go_num, by omega, by omega, by rw [qs]; exact HNEW.out⟩
          case measure => simp [intOf]; omega
        | true =>
          rw [hbo] at by2
          have es := HESC.out
          rw [hbo] at es
          obtain rfl : sc = 1000 + 7 * (q : Int) + 1 := by rw [es]; simp [secI]
          clear es
          go_wp2_with fail
          refine (HSEC.out _).mono ?_
          rintro e0 w0 ⟨rfl, rfl⟩
          go_wp2_with fail
          refine (HVT.out _).mono ?_
          rintro e1 w1 ⟨rfl, ho1⟩
          have hsz1 := (HS.out.only.trans ho1).size
          have HO1 := Lib.hid ho1
          have HOW1 := Lib.hid (own_only HOWN.out ho1 (fun _ _ e => e))
          clear ho1 c0 hld
          go_wp2_with (at_builtin; refine wpList_append_lies _ rfl _ _ 32 rfl w.heap.size 43 ie z 36 ie.bytes Tryz.underlying32 HIE.out HZ.out HSZ.out rfl HZC.out (by omega) u9 N ((votesN yes odd h (q - 1)).flatMap vtC) rfl (World.ownsRow.alloc HOW1.out _) _ 1 1 (vtC V) rfl (by rw [vtC_len HVO.out.head.root]) (World.news_of_block (cs := (vtC V).toArray) (t := 43) (fr := (0, 0)) (NewB.new _ V)) (vtC_one V) (by omega) (by rw [maxLen_val]; omega) (by have := HBY.out; exact Nat.le_trans (Nat.mul_le_mul (show N + 1 ≤ 40 by omega) this) (by omega)) (by simp; omega) _ rfl ?_; intro g3 cap3 w3 hown3 hgrow3 hat3 hlt3)
          have hnew : VwS w D H d h kA kc yes odd q (.slice (some ⟨g3, 0, none⟩) (N + 1) cap3) w3 := by
            have hne : ∀ b cs t, Blk w1 b t cs → t ≠ 43 → u9.ownBlock ≠ some b := fun b cs t hb ht => own_blk_ne HOW1.out hb (Ne.symm ht)
            have b1 := HS.out.wd.only HO1.out (fun e => e)
            have b2 := HS.out.hd.only HO1.out (fun e => e)
            refine ⟨(b1.alloc _).grown hgrow3 (Ne.symm (hne _ _ _ b1 (by decide))), (b2.alloc _).grown hgrow3 (Ne.symm (hne _ _ _ b2 (by decide))), ?_, ((HS.out.only.trans HO1.out).alloc _).grown hgrow3 (fun j e => .inr (own_ge HOW1.out e).1)⟩
            unfold VtOwn
            rw [HTK.out, HLEN.out]
            exact hown3
          have HNEW := Lib.hid hnew
          clear hnew hown3 hgrow3 hat3 hlt3 hbs
          go_wp2_with fail
          go_roundw
          case rel => exact ⟨q + 1, by go_num, by omega, by omega, by rw [qs]; exact HNEW.out⟩
          case measure => simp [intOf]; omega
    · have ik : ¬ (q : Int) ≤ 1 + (d.off : Int) % 7 := by omega
      have hqe : q - 1 = d.n := by omega
      have HS := Lib.hid hS
      rw [hqe] at HS
      clear hS hown eN
      go_wp2_with fail
      go_ret
      exact ⟨_, rfl, HS.out.own, HS.out.only⟩
end Go.Proofs.YtgalfohobgjelaaGreatDoor
namespace Go.Proofs.YtgalfohobgjelaaGreatDoor
open Go.RowKit Go.Shelf
theorem CliAt.recell {w w' : World} {base : Nat} {c c' : Cli} (h : CliAt w base c) (ho : Only (fun k => k = c.C) w w') (hb : Blk w' c.C tCli (cliC c').toArray) (e1 : c'.C = c.C) (e2 : c'.pv = c.pv) (e3 : c'.P = c.P) (e4 : c'.vv = c.vv) (e5 : c'.votes = c.votes) (e6 : c'.mv = c.mv) (e7 : c'.seen = c.seen) (e8 : c'.head = c.head) : CliAt w' base c' := by
  refine ⟨by rw [e1]; exact hb, by rw [e1]; exact h.lo, by rw [e8]; exact h.hok, ?_, ?_, by rw [e5]; exact h.ok, ?_, by rw [e7]; exact h.sok⟩
  · rw [e2, e3]; exact own_only h.pers ho (fun k hk e => h.ne_pv (by rw [hk, e]))
  · rw [e4, e5]; exact own_only h.votes ho (fun k hk e => h.ne_vv (by rw [hk, e]))
  · rw [e6, e7]; exact h.seen.only ho (fun k hk e => h.ne_mv (by rw [hk, e]))
theorem recell_step {w w' : World} {c c' : Cli} (ho : Only (fun k => k = c.C) w w') (e1 : c'.C = c.C) (e2 : c'.pv = c.pv) (e4 : c'.vv = c.vv) (e6 : c'.mv = c.mv) : CliStep w w' c c' :=
  ⟨ho.mono (fun k _ hk => .inl hk), fun k hk => .inl (by
    rcases hk with hk | hk | hk | hk
    · exact .inl (by rw [hk, e1])
    · exact .inr (.inl (by rw [← e2]; exact hk))
    · exact .inr (.inr (.inl (by rw [← e4]; exact hk)))
    · exact .inr (.inr (.inr (by rw [← e6]; exact hk))))⟩
def encT (d : Bd) : ByteArray := ⟨(encB d).toArray⟩
set_option maxRecDepth 100000 in
set_option maxHeartbeats 1000000 in
theorem csent_any (d : Bd) (hd : d.Ok) {qA pA : Option Addr} {qk pk : Nat} {w : World} (hq : IntSl w qA d.qc) (hp : IntSl w pA d.pc) (ht : Tab w) (base : Nat) (c : Cli) (h : CliAt w base c) :
    Calls Tryz.prog 32 #[.pointer (some ⟨c.C, 0, none⟩), .agg (bdCells d qA pA qk pk)] w fun e w' => e = .returned (.tuple #[]) ∧ CliAt w' base { c with sent := true, text := encT d, rc := false } ∧ CliStep w w' c { c with sent := true, text := encT d, rc := false } := by
  have ho0 : Only NoneOf w (w.alloc (.cells (bdCells d qA pA qk pk) tBid)) := (Only.refl _ _).alloc _
  have hen : ∀ W, Only NoneOf w W → Calls Tryz.prog 64 #[.agg (bdCells d qA pA qk pk)] W (RetStr (encB d) W) := fun W ho => bencode_any d hd (hq.none_ ho) (hp.none_ ho) (ht.none ho)
  have hen0 := hen _ ho0
  have H := Lib.hid h
  have HEN := Lib.hid hen0
  have HO0 := Lib.hid ho0
  clear h hq hp ht hen hen0 ho0
  go_enter Tryz.func32, Tryz.ntmps32
  go_wp2_with fail
  refine HEN.out.mono ?_
  rintro e w2 ⟨t, rfl, ht, ho2⟩
  obtain rfl : t = encT d := ba_ext ht
  have hc := H.out.nn (HO0.out.trans ho2)
  have hl := hc.hok.root
  have b1 := cli_put_sent hc.blk true
  have b2 := cli_put_text b1 (encT d)
  have b3 := cli_put_rc b2 hl false
  have s1 := cli_sent hc.blk
  have s2 := cli_text b1
  have s3 := cli_rc b2 hl
  have f1 := hc.blk.frozen 7
  have f2 := b1.frozen 8
  have f3 := b2.frozen 44
  have hon : Only (fun k => k = c.C) w2 (((w2.setCell ⟨c.C, 7, none⟩ (.bool true)).setCell ⟨c.C, 8, none⟩ (.string (encT d))).setCell ⟨c.C, 44, none⟩ (.bool false)) := (((Only.refl (fun k => k = c.C) w2).setCell (p := ⟨c.C, 7, none⟩) (.inl rfl) _).setCell (p := ⟨c.C, 8, none⟩) (.inl rfl) _).setCell (p := ⟨c.C, 44, none⟩) (.inl rfl) _
  have hfin := hc.recell (c' := { c with sent := true, text := encT d, rc := false }) hon b3 rfl rfl rfl rfl rfl rfl rfl rfl
  have hst := (CliStep.nn (c := c) (HO0.out.trans ho2)).trans (recell_step (c' := { c with sent := true, text := encT d, rc := false }) hon rfl rfl rfl rfl)
  have HFIN := Lib.hid hfin
  have HST := Lib.hid hst
  clear hc b1 b2 b3 hon hfin hst ht ho2
  go_wp2_with fail
  go_end0
  exact ⟨rfl, HFIN.out, HST.out⟩
end Go.Proofs.YtgalfohobgjelaaGreatDoor
namespace Go.Proofs.YtgalfohobgjelaaGreatDoor
open Go.RowKit Go.Shelf
def stC (b : Bool) : List Value := [.bool b]
theorem stC_len (b : Bool) : (stC b).length = 1 := rfl
/-- Steps that the call made. -/
def StOwn (w : World) (base : Nat) (v : Value) (n : Nat) (L : List Bool) : Prop := w.ownsRow base 155 1 v n (L.flatMap stC)
theorem stC_get (L : List Bool) (i : Nat) : (L.flatMap stC)[i]? = (L[i]?).map Value.bool := by
  induction L generalizing i with
  | nil => simp
  | cons x l ih =>
    rw [List.flatMap_cons]
    cases i with
    | zero => rfl
    | succ i => show (l.flatMap stC)[i]? = _; rw [ih]; rfl
theorem StOwn.cell {w : World} {base g cap n : Nat} {L : List Bool} (h : StOwn w base (.slice (some ⟨g, 0, none⟩) n cap) n L) {i : Nat} {b : Bool} (hi : L[i]? = some b) : w.cell? ⟨g, i, none⟩ = some (.bool b) := by
  have h2 := World.ownsRow.cells h rfl i (.bool b) (by rw [stC_get, hi]; rfl)
  rw [Addr.add_mid, Nat.zero_add] at h2
  exact h2
theorem own_frozen {w : World} {base g cap n size : Nat} {e : TypeId} {xs : List Value} (h : w.ownsRow base e size (.slice (some ⟨g, 0, none⟩) n cap) n xs) (i : Nat) : w.frozen? ⟨g, i, none⟩ = false := by
  rcases h.2 with ⟨h0, _⟩ | ⟨g', cap', cur, hv, hb, hh, _⟩
  · simp at h0
  · simp only [Value.slice.injEq, Option.some.injEq, Addr.mk.injEq, and_true, true_and] at hv
    obtain ⟨rfl, rfl⟩ := hv
    exact Blk.frozen (t := e) hh i
theorem step_info : ∃ ie z, Tryz.prog.info? 155 = some ie ∧ ie.size = 1 ∧ ie.zero = some z ∧ z.cells.size = 1 ∧ ie.bytes ≤ 100 := by
  have h1 : (Tryz.prog.info? 155).map (·.size) = some 1 := by kernel_rfl
  have h2 : ((Tryz.prog.info? 155).bind (·.zero)).isSome = true := by kernel_rfl
  have h3 : (Tryz.prog.info? 155).map (fun i => decide (i.bytes ≤ 100)) = some true := by kernel_rfl
  have h4 : ((Tryz.prog.info? 155).bind (·.zero)).map (fun z => z.cells.size) = some 1 := by kernel_rfl
  cases hie : Tryz.prog.info? 155 with
  | none => simp [hie] at h1
  | some ie =>
    simp only [hie, Option.map_some, Option.some.injEq, Option.bind_some, decide_eq_true_eq] at h1 h2 h3 h4
    obtain ⟨z, hz⟩ := Option.isSome_iff_exists.1 h2
    simp only [hz, Option.map_some, Option.some.injEq] at h4
    exact ⟨ie, z, rfl, h1, hz, h4, h3⟩
/-- Two steps change places. -/
def swapL (L : List Bool) (i j : Nat) : List Bool := (L.set i (L.getD j false)).set j (L.getD i false)
theorem StOwn.swap {w : World} {base g cap n i j : Nat} {L : List Bool} {a b : Bool} (h : StOwn w base (.slice (some ⟨g, 0, none⟩) n cap) n L) (ha : L[i]? = some a) (hb : L[j]? = some b) :
    StOwn ((w.setCell ⟨g, i, none⟩ (.bool b)).setCell ⟨g, j, none⟩ (.bool a)) base (.slice (some ⟨g, 0, none⟩) n cap) n (swapL L i j) := by
  have h1 := World.ownsRow.stored h i (.bool b)
  have h2 := World.ownsRow.stored h1.1 j (.bool a)
  have e : ∀ (M : List Bool) (k : Nat) (x : Bool), (M.flatMap stC).set k (.bool x) = (M.set k x).flatMap stC := fun M k x => by
    apply List.ext_getElem?
    intro q
    rw [stC_get, List.getElem?_set, List.getElem?_set, stC_get]
    have hl : (M.flatMap stC).length = M.length := by rw [flat_len stC_len]; omega
    rw [hl]
    split
    · split <;> rfl
    · rfl
  have hsw : swapL L i j = (L.set i b).set j a := by
    unfold swapL
    rw [List.getD_eq_getElem?_getD, List.getD_eq_getElem?_getD, ha, hb]
    rfl
  rw [hsw]
  unfold StOwn
  rw [← e, ← e]
  exact h2.1
theorem getD_swap (L : List Bool) {i j : Nat} (hi : i < L.length) (hj : j < L.length) (k : Nat) : (swapL L i j)[k]? = if k = j then L[i]? else if k = i then L[j]? else L[k]? := by
  unfold swapL
  rw [List.getElem?_set, List.getElem?_set, List.length_set]
  by_cases e : k = j
  · subst e
    rw [if_pos rfl, if_pos hj, if_pos rfl, List.getD_eq_getElem?_getD, List.getElem?_eq_getElem hi]; rfl
  · rw [if_neg (Ne.symm e), if_neg e]
    by_cases e2 : k = i
    · subst e2
      rw [if_pos rfl, if_pos hi, if_pos rfl, List.getD_eq_getElem?_getD, List.getElem?_eq_getElem hj]; rfl
    · rw [if_neg (Ne.symm e2), if_neg e2]
/-- The first k and the last k have changed places. -/
def RevR (L M : List Bool) (k : Nat) : Prop := M.length = L.length ∧ ∀ q, M[q]? = if q < k ∨ L.length ≤ q + k then L.reverse[q]? else L[q]?
theorem RevR.zero (L : List Bool) : RevR L L 0 := ⟨rfl, fun q => by
  split
  · rename_i h
    have : L.length ≤ q := by omega
    rw [List.getElem?_eq_none (by omega), List.getElem?_eq_none (by rw [List.length_reverse]; omega)]
  · rfl⟩
theorem RevR.next {L M : List Bool} {k : Nat} (h : RevR L M k) (hk : 2 * k + 1 < L.length) : RevR L (swapL M k (L.length - 1 - k)) (k + 1) := by
  refine ⟨by unfold swapL; rw [List.length_set, List.length_set, h.1], fun q => ?_⟩
  rw [getD_swap M (by rw [h.1]; omega) (by rw [h.1]; omega)]
  have r : ∀ q, q < L.length → L.reverse[q]? = L[L.length - 1 - q]? := fun q hq => List.getElem?_reverse hq
  by_cases e : q = L.length - 1 - k
  · rw [if_pos e, h.2, if_neg (by omega), if_pos (by omega), r q (by omega)]
    congr 1; omega
  · rw [if_neg e]
    by_cases e2 : q = k
    · rw [if_pos e2, h.2, if_neg (by omega), if_pos (by omega), r q (by omega)]
      congr 1; omega
    · rw [if_neg e2, h.2]
      by_cases e3 : q < k ∨ L.length ≤ q + k
      · rw [if_pos e3, if_pos (by omega)]
      · rw [if_neg e3, if_neg (by omega)]
theorem RevR.done {L M : List Bool} {k : Nat} (h : RevR L M k) (hk : L.length ≤ 2 * k + 1) : M = L.reverse := by
  apply List.ext_getElem?
  intro q
  rw [h.2]
  by_cases e : q < k ∨ L.length ≤ q + k
  · rw [if_pos e]
  · rw [if_neg e, List.getElem?_reverse (by omega)]
    congr 1; omega
set_option maxRecDepth 100000 in
set_option maxHeartbeats 2000000 in
theorem reverse_any (L : List Bool) (hn : L.length ≤ 100000) (base : Nat) (v : Value) (w : World) (h : StOwn w base v L.length L) :
    Calls Tryz.prog 152 #[v] w fun e w' => e = .returned (.tuple #[]) ∧ StOwn w' base v L.length L.reverse ∧ Only (fun k => v.ownBlock = some k) w w' := by
  rcases Nat.eq_zero_or_pos L.length with h0 | hpos
  · have hL : L = [] := List.eq_nil_of_length_eq_zero h0
    subst hL
    obtain ⟨A, cap, rfl, hc1, hc2⟩ := own_form' h
    have H := Lib.hid h
    clear h h0
    go_enter Tryz.func152, Tryz.ntmps152
    go_wp2_with fail
    go_loopw [2, 3] (fun iv jv wr => iv = .int .i64 0 ∧ jv = .int .i64 (-1) ∧ wr = w) (fun _ _ _ => 0)
    case atStart => exact ⟨rfl, rfl, rfl⟩
    case round =>
      obtain ⟨rfl, rfl, rfl⟩ := hrel
      go_wp2_with fail
      go_end0
      exact ⟨rfl, H.out, Only.refl _ _⟩
  · obtain ⟨g, cap, rfl, hg1, hg2, hg3, hg4⟩ := own_form h hpos
    have H := Lib.hid h
    clear h
    go_enter Tryz.func152, Tryz.ntmps152
    go_wp2_with fail
    go_loopw [2, 3] (fun iv jv wr => ∃ (k : Nat) (M : List Bool), iv = .int .i64 (k : Int) ∧ jv = .int .i64 ((L.length : Int) - 1 - (k : Int)) ∧ 2 * k ≤ L.length + 1 ∧ RevR L M k ∧ StOwn wr base (.slice (some ⟨g, 0, none⟩) L.length cap) L.length M ∧ Only (fun q => q = g) w wr) (fun iv _ _ => L.length - (intOf iv).toNat)
    case atStart => exact ⟨0, L, rfl, by go_num, by omega, RevR.zero L, H.out, Only.refl _ _⟩
    case round =>
      obtain ⟨k, M, rfl, rfl, hk, hR, hown, ho⟩ := hrel
      by_cases hlt : 2 * k + 1 < L.length
      · obtain ⟨j, ej⟩ : ∃ j, j = L.length - 1 - k := ⟨_, rfl⟩
        have ej2 : (L.length : Int) - 1 - (k : Int) = (j : Int) := by omega
        rw [ej2]
        obtain ⟨a, ha⟩ : ∃ a, M[k]? = some a := ⟨_, List.getElem?_eq_getElem (by rw [hR.1]; omega)⟩
        obtain ⟨b, hb⟩ : ∃ b, M[j]? = some b := ⟨_, List.getElem?_eq_getElem (by rw [hR.1]; omega)⟩
        have c1 := hown.cell ha
        have c2 := hown.cell hb
        have f1 := own_frozen hown k
        have f2 := own_frozen hown j
        have d1 : decide ((k : Int) < (j : Int)) = true := decide_eq_true (by omega)
        have d2 : k < j := by omega
        have k0 : (0 : Int) ≤ (k : Int) := by omega
        have j0 : (0 : Int) ≤ (j : Int) := by omega
        have k1 : (k : Int) < (L.length : Int) := by omega
        have j1 : (j : Int) < (L.length : Int) := by omega
        have j2 : j ≤ 100000 := by omega
        have HN := Lib.hid (And.intro (hR.next hlt) (And.intro (hown.swap ha hb) (show Only (fun q => q = g) w ((wr.setCell ⟨g, k, none⟩ (.bool b)).setCell ⟨g, j, none⟩ (.bool a)) from (ho.setCell (p := ⟨g, k, none⟩) (.inl rfl) _).setCell (p := ⟨g, j, none⟩) (.inl rfl) _)))
        have EJ := Lib.hid ej
        clear ho hown hR ha hb ej ej2 hk hlt
        go_wp2_with fail
        go_region
        have hs : ((j : Int) - 1) = (L.length : Int) - 1 - ((k + 1 : Nat) : Int) := by have := EJ.out; omega
        have HS := Lib.hid hs
        clear c1 c2 f1 f2 hs
        go_wp2_with fail
        go_roundw
        case rel => exact ⟨k + 1, swapL M k j, by go_num, by rw [← HS.out], by have := EJ.out; omega, by rw [EJ.out]; exact HN.out.1, by rw [EJ.out]; exact (EJ.out ▸ HN.out.2.1), HN.out.2.2.drew⟩
        case measure => simp [intOf]; omega
      · have d1 : decide ((k : Int) < (L.length : Int) - 1 - (k : Int)) = false := decide_eq_false (by omega)
        have hd := hR.done (by omega)
        have HN := Lib.hid (And.intro hd (And.intro hown ho))
        clear hd hown ho hR hk hlt
        go_wp2_with fail
        go_end0
        refine ⟨rfl, ?_, HN.out.2.2.mono (fun q _ e => by rw [e]; rfl)⟩
        rw [← HN.out.1]
        exact HN.out.2.1
/-- What the loop keeps: what is done is a beginning of the way. -/
def WyR (i n a m : Nat) (L : List Bool) : Prop := ∃ f, m ≤ f ∧ f ≤ 1000 ∧ wayF n i n = L ++ wayF f a m
theorem WyR.len {i n a m : Nat} {L : List Bool} (h : WyR i n a m L) (hn : n ≤ 1000) : L.length ≤ 1000 := by
  obtain ⟨f, _, _, e⟩ := h
  have h1 := congrArg List.length e
  rw [way_len, List.length_append] at h1
  have := depthF_le n i n
  omega
theorem WyR.left {i n a m : Nat} {L : List Bool} (h : WyR i n a m L) (h1 : 1 < m) (hk : a < halfN m) : WyR i n a (halfN m) (L ++ [false]) := by
  obtain ⟨f, hf, hf2, e⟩ := h
  have hs := halfN_spec (n := m) (by omega) (by omega)
  obtain ⟨g, rfl⟩ : ∃ g, f = g + 1 := ⟨f - 1, by omega⟩
  refine ⟨g, by omega, by omega, ?_⟩
  rw [e, List.append_assoc, show wayF (g + 1) a m = if m ≤ 1 then [] else if a < halfN m then false :: wayF g a (halfN m) else true :: wayF g (a - halfN m) (m - halfN m) from rfl, if_neg (by omega), if_pos hk]
  rfl
theorem WyR.right {i n a m : Nat} {L : List Bool} (h : WyR i n a m L) (h1 : 1 < m) (hk : ¬ a < halfN m) : WyR i n (a - halfN m) (m - halfN m) (L ++ [true]) := by
  obtain ⟨f, hf, hf2, e⟩ := h
  have hs := halfN_spec (n := m) (by omega) (by omega)
  obtain ⟨g, rfl⟩ : ∃ g, f = g + 1 := ⟨f - 1, by omega⟩
  refine ⟨g, by omega, by omega, ?_⟩
  rw [e, List.append_assoc, show wayF (g + 1) a m = if m ≤ 1 then [] else if a < halfN m then false :: wayF g a (halfN m) else true :: wayF g (a - halfN m) (m - halfN m) from rfl, if_neg (by omega), if_neg hk]
  rfl
theorem WyR.done {i n a m : Nat} {L : List Bool} (h : WyR i n a m L) (h1 : m ≤ 1) : L = wayF n i n := by
  obtain ⟨f, hf, hf2, e⟩ := h
  rw [e]
  have : wayF f a m = [] := by cases f with
    | zero => rfl
    | succ f => unfold wayF; rw [if_pos h1]
  rw [this, List.append_nil]
theorem newS (W : World) (b : Bool) : (W.alloc (.cells #[.bool b] 155)).heap[W.heap.size]? = some (.cells #[.bool b] 155 (0, 0)) := Blk.new W _ _
set_option maxRecDepth 100000 in
set_option maxHeartbeats 4000000 in
theorem way_any (i n : Nat) (hi : i < n) (hn : n ≤ 1000) (w : World) : Calls Tryz.prog 105 #[.int .i64 (i : Int), .int .i64 (n : Int)] w fun e w' => ∃ ov, e = .returned ov ∧ StOwn w' w.heap.size ov (wayF n i n).reverse.length (wayF n i n).reverse ∧ Only NoneOf w w' := by
  obtain ⟨ie, zz, hie, hsz, hz, hzc, hby⟩ := step_info
  have HIE := Lib.hid hie
  have HSZ := Lib.hid hsz
  have HZZ := Lib.hid hz
  have HZC := Lib.hid hzc
  have HBY := Lib.hid hby
  have H0 : Hid (WyR i n i n []) := Lib.hid ⟨n, Nat.le_refl _, hn, rfl⟩
  clear hie hsz hz hzc hby
  go_enter Tryz.func105, Tryz.ntmps105
  go_wp2_with fail
  go_loopw [0, 1, 5] (fun iv nv ov wr => ∃ (a m : Nat) (L : List Bool), iv = .int .i64 (a : Int) ∧ nv = .int .i64 (m : Int) ∧ a < m ∧ m ≤ 1000 ∧ WyR i n a m L ∧ StOwn wr w.heap.size ov L.length L ∧ Only NoneOf w wr) (fun _ nv _ _ => (intOf nv).toNat)
  case atStart => exact ⟨i, n, [], rfl, rfl, hi, hn, H0.out, ⟨rfl, .inl ⟨rfl, rfl⟩⟩, Only.refl _ _⟩
  case round =>
    obtain ⟨a, m, L, rfl, rfl, ham, hm, hW, hown, ho⟩ := hrel
    obtain ⟨out, hout⟩ : ∃ out : Value, out = u5 := ⟨_, rfl⟩
    subst hout
    have hLl := hW.len hn
    by_cases h1 : 1 < m
    · have d1 : decide (1 < (m : Int)) = true := decide_eq_true (by omega)
      have hsp := halfN_spec (n := m) (by omega) (by omega)
      obtain ⟨k, ek⟩ : ∃ k, k = halfN m := ⟨_, rfl⟩
      have HH : Hid (∀ W, Calls Tryz.prog 83 #[.int .i64 (m : Int)] W fun e w' => e = .returned (.int .i64 (k : Int)) ∧ w' = W) := Lib.hid (fun W => by rw [ek]; exact half_any m (by omega) (by omega) W)
      by_cases hk : a < k
      · have d2 : decide ((a : Int) < (k : Int)) = true := decide_eq_true (by omega)
        have HW : Hid (WyR i n a k (L ++ [false])) := Lib.hid (by rw [ek]; exact hW.left h1 (by rw [← ek]; exact hk))
        rw [← ek] at hsp
        have HOWN := Lib.hid hown
        have HO := Lib.hid ho
        clear ek hW hown ho
        go_wp2_with fail
        refine (HH.out _).mono ?_
        rintro e1 w1 ⟨rfl, rfl⟩
        go_wp2_with (at_builtin; refine wpList_append_lies _ rfl _ _ 152 rfl w.heap.size 155 ie zz 1 ie.bytes Tryz.underlying152 HIE.out HZZ.out HSZ.out rfl HZC.out (by omega) out L.length (L.flatMap stC) rfl (World.ownsRow.alloc HOWN.out _) _ 1 1 (stC false) rfl rfl (World.news_of_block (cs := #[.bool false]) (t := 155) (fr := (0, 0)) (newS _ false)) (by simp [stC, Value.oneCell']) (by omega) (by rw [maxLen_val]; omega) (by have := HBY.out; exact Nat.le_trans (Nat.mul_le_mul (show L.length + 1 ≤ 2000 by omega) this) (by omega)) (Only.size (Only.alloc HO.out _)) _ rfl ?_; intro g8 cap8 w8 hown8 hgrow8 hat8 hlt8)
        have hS8 : Only NoneOf w w8 := (Only.alloc HO.out _).grown hgrow8 (fun j e => .inr (own_ge HOWN.out e).1)
        have HF := Lib.hid hS8
        have HWN := Lib.hid hown8
        clear hgrow8 hat8 hlt8 hown8 hS8
        go_wp2_with fail
        go_roundw
        case rel => exact ⟨a, k, L ++ [false], rfl, rfl, hk, by omega, HW.out, by unfold StOwn; rw [List.length_append, List.flatMap_append]; exact HWN.out, HF.out⟩
        case measure => simp [intOf]; omega
      · have d2 : decide ((a : Int) < (k : Int)) = false := decide_eq_false (by omega)
        have HW : Hid (WyR i n (a - k) (m - k) (L ++ [true])) := Lib.hid (by rw [ek]; exact hW.right h1 (by rw [← ek]; exact hk))
        rw [← ek] at hsp
        have HOWN := Lib.hid hown
        have HO := Lib.hid ho
        clear ek hW hown ho
        go_wp2_with fail
        refine (HH.out _).mono ?_
        rintro e1 w1 ⟨rfl, rfl⟩
        go_wp2_with (at_builtin; refine wpList_append_lies _ rfl _ _ 152 rfl w.heap.size 155 ie zz 1 ie.bytes Tryz.underlying152 HIE.out HZZ.out HSZ.out rfl HZC.out (by omega) out L.length (L.flatMap stC) rfl (World.ownsRow.alloc HOWN.out _) _ 1 1 (stC true) rfl rfl (World.news_of_block (cs := #[.bool true]) (t := 155) (fr := (0, 0)) (newS _ true)) (by simp [stC, Value.oneCell']) (by omega) (by rw [maxLen_val]; omega) (by have := HBY.out; exact Nat.le_trans (Nat.mul_le_mul (show L.length + 1 ≤ 2000 by omega) this) (by omega)) (Only.size (Only.alloc HO.out _)) _ rfl ?_; intro g8 cap8 w8 hown8 hgrow8 hat8 hlt8)
        have hS8 : Only NoneOf w w8 := (Only.alloc HO.out _).grown hgrow8 (fun j e => .inr (own_ge HOWN.out e).1)
        have HF := Lib.hid hS8
        have HWN := Lib.hid hown8
        clear hgrow8 hat8 hlt8 hown8 hS8
        go_wp2_with fail
        go_roundw
        case rel => exact ⟨a - k, m - k, L ++ [true], by go_num, by go_num, by omega, by omega, HW.out, by unfold StOwn; rw [List.length_append, List.flatMap_append]; exact HWN.out, HF.out⟩
        case measure => simp [intOf]; omega
    · have d1 : decide (1 < (m : Int)) = false := decide_eq_false (by omega)
      have hd := hW.done (by omega)
      have hrv : Calls Tryz.prog 152 #[out] wr fun e w' => e = .returned (.tuple #[]) ∧ StOwn w' w.heap.size out L.length L.reverse ∧ Only (fun k => out.ownBlock = some k) wr w' := reverse_any L (by omega) w.heap.size out wr hown
      have HRV := Lib.hid hrv
      have HD := Lib.hid hd
      have HO := Lib.hid ho
      have HGE : Hid (∀ k, out.ownBlock = some k → w.heap.size ≤ k) := Lib.hid (fun k hk => (own_ge hown hk).1)
      clear hrv hd ho hown hW
      go_wp2_with fail
      refine HRV.out.mono ?_
      rintro e1 w1 ⟨rfl, hown1, ho1⟩
      have HF := Lib.hid (And.intro hown1 (HO.out.trans' ho1 (fun q hq e => by have := HGE.out q e; omega)))
      clear hown1 ho1 HRV
      go_wp2_with fail
      go_ret
      refine ⟨_, rfl, ?_, HF.out.2⟩
      rw [← HD.out, List.length_reverse]
      exact HF.out.1
end Go.Proofs.YtgalfohobgjelaaGreatDoor
namespace Go.Proofs.YtgalfohobgjelaaGreatDoor
open Go.RowKit Go.Shelf
attribute [local go_sem ↓ high] haLoad_eq
/-- Whether a path tells of a leaf below a head of s leaves. -/
def ckP (r : Hs) (s : Nat) (i : Int) (l : List UInt8) (Q : List Hs) : Bool :=
  if i < 0 then false else if (s : Int) ≤ i then false else if Q.length = depthF s i.toNat s then (upF s (leafL l) i.toNat s Q.reverse == r) else false
/-- What lies there while a path is looked at. -/
structure CpS (w : World) (B : Nat) (h : Hd) (v : Value) (Q : List Hs) (W : World) : Prop where
  a : HdAt W B h
  r : W.rangeAt B 1 (h.root.map bv)
  l : HaSl W v Q
  only : Only NoneOf w W
theorem CpS.keep {w : World} {B : Nat} {h : Hd} {v : Value} {Q : List Hs} {W W' : World} (hh : CpS w B h v Q W) (ho : Only NoneOf W W') : CpS w B h v Q W' :=
  ⟨Blk.only hh.a ho (fun e => e), rng_only hh.r ho, hh.l.only ho, hh.only.trans ho⟩
theorem CpS.new {w : World} {h : Hd} {v : Value} {Q : List Hs} (hs : HaSl w v Q) : CpS w w.heap.size h v Q (w.alloc (.cells (hdC h).toArray 37)) :=
  ⟨Blk.new w _ _, range_root (blk_range (Blk.new w tHd (hdC h).toArray)), hs.only ((Only.refl _ _).alloc _), (Only.refl _ _).alloc _⟩
end Go.Proofs.YtgalfohobgjelaaGreatDoor
