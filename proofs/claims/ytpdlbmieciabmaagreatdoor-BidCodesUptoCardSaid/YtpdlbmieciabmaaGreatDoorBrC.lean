/- What is proved here: a text is split into rows of words, and words read as numbers, by the bids' code. Conditions: the texts are short; the library's variables hold what their initialisers lay. -/
import Derived.Test.YtpdlbmieciabmaaGreatDoorBrE
import Derived.Test.YtpdlbmieciabmaaGreatDoorBrT
import Derived.Test.YtpdlbmieciabmaaGreatDoorQ1
import Derived.WalkSmall
namespace Go.Proofs.YtpdlbmieciabmaaGreatDoor
open Go.RowKit Go.Shelf
attribute [local go_sem ↓ high] aph_eq
def strSz : Value → Nat
  | .string s => s.size
  | _ => 0
/-- A row is appended to rows that the call made. -/
theorem run_append_row (W : World) (base : Nat) (v : Value) (rows : List (List ByteArray)) (u : Value) (r : List ByteArray) (hu : u.oneCell' = true) (h : RowsOwn W base v rows.length rows) (hr : SlT 9 strC 1 W u r) (hn : rows.length ≤ 1000000000) (hb : base ≤ W.heap.size) (N : Nat) (hsrc : Blk W N 72 #[u]) (ty : TypeId) :
    ∃ A cap W', (aph #[106, 106] ty #[v, .slice (some ⟨N, 0, none⟩) 1 1]).run Tryz.prog W = .ok (.slice A (rows.length + 1) cap) W' ∧ RowsOwn W' base (.slice A (rows.length + 1) cap) (rows.length + 1) (rows ++ [r]) ∧ Only (TS base W [72]) W W' := by
  obtain ⟨L, h1, h2, h3⟩ := h
  rw [← h1] at h2
  obtain ⟨A, cap, W', hrun, k1, k2, _⟩ := run_append_rec (T := 106) Tryz.underlying106 rowsI (by omega) (by omega) valC_len W base v L u (val_one u hu) h2 N hsrc (by omega) hb ty
  rw [h1] at hrun k1
  have ho : Only (fun k => v.ownBlock = some k) W W' := (Only.refl _ _).grown k2 (fun b e => .inl e)
  have hk : ∀ {x : Value} {q : List ByteArray}, SlT 9 strC 1 W x q → SlT 9 strC 1 W' x q := fun hx => hx.keep ho (fun g cur hb _ e => own_blk_ne h2 hb (by decide) e)
  refine ⟨A, cap, W', hrun, ⟨L ++ [u], by simp [h1], k1, fun i x q hx hq => ?_⟩, grown_ts k2 h2⟩
  rcases Nat.lt_or_ge i L.length with hi | hi
  · rw [List.getElem?_append_left hi] at hx
    rw [List.getElem?_append_left (by omega)] at hq
    exact hk (h3 i x q hx hq)
  · rw [List.getElem?_append_right hi] at hx
    rw [List.getElem?_append_right (by omega), ← h1] at hq
    cases hz : i - L.length with
    | zero =>
      rw [hz] at hx hq
      simp only [List.getElem?_cons_zero, Option.some.injEq] at hx hq
      subst hx
      subst hq
      exact hk hr
    | succ z => rw [hz] at hx; simp at hx
/-- What the splitting keeps. -/
structure SplS (s : ByteArray) (w : World) (v : Value) (r : ByteArray) (rows : List (List ByteArray)) (W : World) : Prop where
  inv : SplI s.data.toList rows r.data.toList
  own : RowsOwn W w.heap.size v rows.length rows
  only : Only NoneOf w W
/-- What the splitting answers. -/
def SplitE (s : ByteArray) (w : World) (e : Ending) (w' : World) : Prop := ∃ rows ok rv, e = .returned (.tuple #[rv, .bool ok]) ∧ SplitR s.data.toList rows ok ∧ RowsOwn w' w.heap.size rv rows.length rows ∧ Only NoneOf w w'
theorem SplitE.mk {s : ByteArray} {w w' : World} {rows : List (List ByteArray)} {ok : Bool} {rv : Value} (h1 : SplitR s.data.toList rows ok) (h2 : RowsOwn w' w.heap.size rv rows.length rows) (h3 : Only NoneOf w w') : SplitE s w (.returned (.tuple #[rv, .bool ok])) w' := ⟨rows, ok, rv, rfl, h1, h2, h3⟩
/-- What the reading of numbers answers. -/
def NumsE (ws : List ByteArray) (w : World) (e : Ending) (w' : World) : Prop := ∃ ns ok rv, e = .returned (.tuple #[rv, .bool ok]) ∧ NumsR (rowD ws) ns ok ∧ OwnOf 3 inC 1 w' w.heap.size rv ns.length ns ∧ Only NoneOf w w'
theorem NumsE.mk {ws : List ByteArray} {w w' : World} {ns : List Int} {ok : Bool} {rv : Value} (h1 : NumsR (rowD ws) ns ok) (h2 : OwnOf 3 inC 1 w' w.heap.size rv ns.length ns) (h3 : Only NoneOf w w') : NumsE ws w (.returned (.tuple #[rv, .bool ok])) w' := ⟨ns, ok, rv, rfl, h1, h2, h3⟩
theorem rows_small {s : List UInt8} {rows : List (List ByteArray)} {r : List UInt8} (h : SplI s rows r) : rows.length ≤ s.length ∧ r.length ≤ s.length := by
  have h1 := h.2.1
  have h2 : ∀ l : List (List ByteArray), (∀ x ∈ l, x ≠ []) → l.length ≤ rowsW l := by
    intro l
    induction l with
    | nil => intro _; exact Nat.zero_le _
    | cons x l ih =>
      intro hx
      have e : rowsW (x :: l) = rowW x + rowsW l := by unfold rowsW; simp
      have k1 := ih (fun y hy => hx y (by simp [hy]))
      have k2 := rowW_len x
      have k3 := List.length_pos_iff.2 (hx x (by simp))
      rw [e, List.length_cons]
      omega
  have h3 := h2 rows h.1
  omega
set_option maxRecDepth 100000 in
set_option maxHeartbeats 1000000 in
theorem bsplit_any (s : ByteArray) (hs : s.size ≤ 900000000) (w : World) (he : Env w) : Calls Tryz.prog 39 #[.string s] w (SplitE s w) := by
  have HE := Lib.hid he
  have hsl := size_list s
  clear he
  go_enter Tryz.func39, Tryz.ntmps39
  go_wp2_with fail
  go_loopw [0, 4] (fun sv v wr => ∃ rows r, sv = .string r ∧ SplS s w v r rows wr) (fun sv _ _ => strSz sv)
  case atStart => exact ⟨[], s, rfl, SplI.new _, RowsOwn.nil _ _, Only.refl _ _⟩
  case round =>
    obtain ⟨rows, r, rfl, hS⟩ := hrel
    have hsm := rows_small hS.inv
    have hrl := size_list r
    by_cases h0 : r = ⟨#[]⟩
    · subst h0
      have HF := Lib.hid (SplI.done hS.inv)
      have HS := Lib.hid hS
      clear hS hsm hrl hsl
      go_wp2_with fail
      go_ret2
      exact SplitE.mk HF.out HS.out.own HS.out.only
    · have b1 := tx_someF h0
      have hne : r.data.toList ≠ [] := fun e => h0 (ba_ext e)
      have HNE := Lib.hid hne
      have HS := Lib.hid hS
      clear hS h0 hne
      go_wp2_with fail
      refine (cut_any r (by omega) _ (HE.out.none HS.out.only)).mono ?_
      rintro e w1 ⟨a, b, ok, rfl, hcut, ho1⟩
      have HO1 := Lib.hid (HS.out.only.trans ho1)
      have HC := Lib.hid hcut
      cases ok
      · have HF := Lib.hid (SplI.fail HS.out.inv HNE.out HC.out)
        clear ho1 hcut
        go_wp2_with fail
        go_ret2
        exact SplitE.mk HF.out (RowsOwn.nil _ _) HO1.out
      · have hcl := (cut_len HC.out).1
        have hal := size_list a
        have hbl := size_list b
        have HOWN := Lib.hid (HS.out.own.keep ho1 (fun _ _ e => e) (fun _ _ _ e => e))
        clear ho1 hcut
        go_wp2_with fail
        refine (split_any a (by omega) _ (HE.out.none HO1.out)).mono ?_
        rintro e w2 ⟨A2, cap2, rfl, hrow, ho2⟩
        have HO2 := Lib.hid (HO1.out.trans ho2)
        have hown2 := HOWN.out.keep ho2 (fun _ _ e => e) (fun _ _ _ e => e)
        have hx : Only NoneOf w2 (w2.alloc (.cells #[.slice A2 (rowB a).length cap2] 72)) := (Only.refl _ _).alloc _
        obtain ⟨A', cap', W', hr, k1, k2⟩ := run_append_row (w2.alloc (.cells #[.slice A2 (rowB a).length cap2] 72)) w.heap.size _ rows (.slice A2 (rowB a).length cap2) (rowB a) rfl (hown2.keep hx (fun _ _ e => e) (fun _ _ _ e => e)) (hrow.none_ hx) (by omega) (Nat.le_trans HO2.out.size hx.size) w2.heap.size (Blk.new w2 _ _) 106
        have HSN : Hid (SplS s w (.slice A' (rows.length + 1) cap') b (rows ++ [rowB a]) W') := Lib.hid ⟨SplI.step HS.out.inv HNE.out HC.out rfl, by rw [List.length_append, List.length_singleton]; exact k1, only_base (HO2.out.trans hx) (ts_base k2) (Nat.le_refl _)⟩
        have hmes : strSz (.string b) < strSz (.string r) := by
          show b.size < r.size
          omega
        have HM := Lib.hid hmes
        clear k1 k2 hown2 hx hrow ho2 hmes
        go_wp2_with fail
        go_roundw
        case rel => exact ⟨_, b, rfl, HSN.out⟩
        case measure => exact HM.out
theorem intI : RecI 3 1 8 := recI_of (by kernel_rfl) (by kernel_rfl) (by kernel_rfl)
theorem inC_one (n : Int) : ∀ u ∈ inC n, u.oneCell' = true := fun u hu => by
  obtain rfl := List.mem_singleton.1 hu
  rfl
/-- A number is appended to numbers that the call made. -/
theorem run_append_int (W : World) (base : Nat) (v : Value) (ns : List Int) (n : Int) (h : OwnOf 3 inC 1 W base v ns.length ns) (hn : ns.length ≤ 1000000000) (hb : base ≤ W.heap.size) (N : Nat) (hsrc : Blk W N 3 #[.int .i64 n]) (ty : TypeId) :
    ∃ A cap W', (aph #[38, 38] ty #[v, .slice (some ⟨N, 0, none⟩) 1 1]).run Tryz.prog W = .ok (.slice A (ns.length + 1) cap) W' ∧ OwnOf 3 inC 1 W' base (.slice A (ns.length + 1) cap) (ns.length + 1) (ns ++ [n]) ∧ Only (TS base W [3]) W W' := by
  obtain ⟨A, cap, W', hrun, k1, k2, _⟩ := run_append_rec (T := 38) Tryz.underlying38 intI (by omega) (by omega) inC_len W base v ns n (inC_one n) h N hsrc hn hb ty
  exact ⟨A, cap, W', hrun, k1, grown_ts k2 h⟩
theorem rowD_get {r : List ByteArray} {k : Nat} {t : ByteArray} (h : r[k]? = some t) : (rowD r)[k]? = some t.data.toList := by unfold rowD; rw [List.getElem?_map, h]; rfl
set_option maxRecDepth 100000 in
set_option maxHeartbeats 1000000 in
theorem bnumbers_any (ws : List ByteArray) (hws : ∀ t ∈ ws, t.size ≤ 1000000000) (hl : ws.length ≤ 1000000000) (v : Value) (w : World) (h : SlT 9 strC 1 w v ws) (he : Env w) : Calls Tryz.prog 40 #[v] w (NumsE ws w) := by
  have HE := Lib.hid he
  obtain ⟨A, cap, rfl, hc1, hc2, hat⟩ := h
  have HAT := Lib.hid hat
  have HWS := Lib.hid hws
  clear he hat hws
  go_enter Tryz.func40, Tryz.ntmps40
  go_wp2_with fail
  go_loopw [4, 11] (fun v i wr => ∃ (k : Nat) (ns : List Int), i = .int .i64 k ∧ k ≤ ws.length ∧ NumI (rowD ws) k ns ∧ OwnOf 3 inC 1 wr w.heap.size v ns.length ns ∧ Only NoneOf w wr) (fun _ i _ => ws.length - (intOf i).toNat)
  case atStart => exact ⟨0, [], rfl, Nat.zero_le _, NumI.new _, OwnOf.nil _ _ _ _ _, Only.refl _ _⟩
  case round =>
    obtain ⟨k, ns, rfl, hk, hI, hown, ho⟩ := hrel
    have HI := Lib.hid hI
    have HOWN := Lib.hid hown
    have HO := Lib.hid ho
    have HNL := Lib.hid hI.1
    clear hI hown ho
    by_cases hlt : k < ws.length
    · obtain ⟨t, ht⟩ : ∃ t, ws[k]? = some t := ⟨_, List.getElem?_eq_getElem hlt⟩
      obtain ⟨g, o, cur, rfl, _, hr⟩ := HAT.out k t ht
      have hts := HWS.out t (List.mem_of_getElem? ht)
      have c0 : wr.cell? ⟨g, o + k, none⟩ = some (.string t) := HO.out.cell_some (by simpa using hr 0 _ rfl) (fun e => e)
      have ik : (k : Int) < ws.length := by omega
      have HT := Lib.hid (rowD_get ht)
      clear ht hr
      go_wp2_with fail
      refine (atoi_any t (by omega) _ (HE.out.none HO.out)).mono ?_
      rintro e w1 ⟨n, ev, rfl, hcase, ho1⟩
      have HO1 := Lib.hid (HO.out.trans ho1)
      rcases hcase with ⟨rfl, hn, hu⟩ | ⟨⟨N, rfl⟩, hu⟩
      · have hown1 := OwnOf.keep HOWN.out ho1 (fun _ _ e => e)
        have hx : Only NoneOf w1 (w1.alloc (.cells #[.int .i64 n] 3)) := (Only.refl _ _).alloc _
        obtain ⟨A', cap', W', hrn, k1, k2⟩ := run_append_int (w1.alloc (.cells #[.int .i64 n] 3)) w.heap.size _ ns n (OwnOf.keep hown1 hx (fun _ _ e => e)) (by have := HNL.out; omega) (Nat.le_trans HO1.out.size hx.size) w1.heap.size (Blk.new w1 _ _) 38
        have HN := Lib.hid (HI.out.step HT.out hn hu)
        have HK : Hid (OwnOf 3 inC 1 W' w.heap.size (.slice A' (ns.length + 1) cap') (ns ++ [n]).length (ns ++ [n])) := Lib.hid (by rw [List.length_append, List.length_singleton]; exact k1)
        have HO2 := Lib.hid (only_base (HO1.out.trans hx) (ts_base k2) (Nat.le_refl _))
        clear k1 k2 hown1 hx hn hu ho1
        go_wp2_with fail
        go_roundw
        case rel => exact ⟨k + 1, ns ++ [n], by go_num, by omega, HN.out, HK.out, HO2.out⟩
        case measure => simp [intOf]; omega
      · have HF := Lib.hid (NumI.fail HT.out hu)
        clear ho1 hu
        go_wp2_with fail
        go_ret2
        exact NumsE.mk HF.out (OwnOf.nil _ _ _ _ _) HO1.out
    · obtain rfl : k = ws.length := by omega
      have ik : ¬ (ws.length : Int) < ws.length := by omega
      have hD := HI.out
      have e1 : ws.length = (rowD ws).length := by unfold rowD; rw [List.length_map]
      rw [e1] at hD
      have HD := Lib.hid hD.done
      clear hD e1
      go_wp2_with fail
      go_ret2
      exact NumsE.mk HD.out HOWN.out HO.out
end Go.Proofs.YtpdlbmieciabmaaGreatDoor
