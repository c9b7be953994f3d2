/- What is proved here: rebates that a call makes and appends, one by one. Conditions: there are few. -/
import Derived.Test.YtpdlbmieciabmaaGreatDoorBrT
import Derived.Test.YtpdlbmieciabmaaGreatDoorBrC
namespace Go.Proofs.YtpdlbmieciabmaaGreatDoor
open Go.RowKit Go.Shelf
theorem rebI : RecI 86 2 32 := recI_of (by kernel_rfl) (by kernel_rfl) (by kernel_rfl)
theorem rcC_one (c : Rc) (h : c.v.oneCell' = true) : ∀ u ∈ rcC c, u.oneCell' = true := fun u hu => by
  unfold rcC at hu
  simp only [List.mem_cons, List.not_mem_nil, or_false] at hu
  rcases hu with rfl | rfl
  · exact h
  · rfl
/-- Rebates that the call made. -/
def RbOwn (w : World) (base : Nat) (v : Value) (n : Nat) (rs : List Rb) : Prop := ∃ L : List Rc, L.length = rs.length ∧ OwnOf 86 rcC 2 w base v n L ∧ ∀ (i : Nat) (c : Rc) (r : Rb), L[i]? = some c → rs[i]? = some r → c.pc = r.pc ∧ SlT 3 inC 1 w c.v r.lots
theorem RbOwn.nil (w : World) (base : Nat) : RbOwn w base (.slice none 0 0) 0 [] := ⟨[], rfl, OwnOf.nil _ _ _ _ _, fun i c e h _ => by simp at h⟩
theorem RbOwn.form {w : World} {base n : Nat} {v : Value} {rs : List Rb} (h : RbOwn w base v n rs) : ∃ A cap, v = .slice A n cap ∧ n ≤ cap ∧ cap ≤ maxLen := by
  obtain ⟨L, _, h2, _⟩ := h
  exact own_form' h2
theorem RbOwn.sl {w : World} {base : Nat} {v : Value} {rs : List Rb} (h : RbOwn w base v rs.length rs) : RbSl w v rs := by
  obtain ⟨L, h1, h2, h3⟩ := h
  rw [← h1] at h2
  refine ⟨L, h1, OwnOf.sl rcC_len h2, fun i c e hc he => ?_⟩
  obtain ⟨k1, k2⟩ := h3 i c e hc he
  exact ⟨k1, k2.sl⟩
theorem RbOwn.none_ {w w' : World} {base n : Nat} {v : Value} {rs : List Rb} (h : RbOwn w base v n rs) (ho : Only NoneOf w w') : RbOwn w' base v n rs := by
  obtain ⟨L, h1, h2, h3⟩ := h
  exact ⟨L, h1, OwnOf.keep h2 ho (fun _ _ e => e), fun i c e hc he => ⟨(h3 i c e hc he).1, (h3 i c e hc he).2.none_ ho⟩⟩
theorem RbOwn.ts {w w' : World} {base base' n : Nat} {ts : List TypeId} {v : Value} {rs : List Rb} (h : RbOwn w base v n rs) (ho : Only (TS base' w ts) w w') (ht : 86 ∉ ts) (hi : 3 ∉ ts) : RbOwn w' base v n rs := by
  obtain ⟨L, h1, h2, h3⟩ := h
  exact ⟨L, h1, h2.ts ho ht, fun i c e hc he => ⟨(h3 i c e hc he).1, (h3 i c e hc he).2.ts ho hi⟩⟩
theorem slT_one {α : Type} {t : TypeId} {c : α → List Value} {k : Nat} {w : World} {v : Value} {P : List α} (h : SlT t c k w v P) : v.oneCell' = true := by
  obtain ⟨A, cap, rfl, _⟩ := h
  rfl
/-- A rebate is appended to rebates that the call made. -/
theorem run_append_reb (W : World) (base : Nat) (v : Value) (rs : List Rb) (c : Rc) (r : Rb) (h : RbOwn W base v rs.length rs) (hc : c.pc = r.pc ∧ SlT 3 inC 1 W c.v r.lots) (N : Nat) (hsrc : Blk W N 86 (rcC c).toArray) (hn : rs.length ≤ 1000000000) (hb : base ≤ W.heap.size) (ty : TypeId) :
    ∃ A cap W', (aph #[32, 32] ty #[v, .slice (some ⟨N, 0, none⟩) 1 1]).run Tryz.prog W = .ok (.slice A (rs.length + 1) cap) W' ∧ RbOwn W' base (.slice A (rs.length + 1) cap) (rs.length + 1) (rs ++ [r]) ∧ Only (TS base W [86]) W W' := by
  obtain ⟨L, h1, h2, h3⟩ := h
  rw [← h1] at h2
  obtain ⟨A, cap, W', hr, k1, k2, _⟩ := run_append_rec (T := 32) Tryz.underlying32 rebI (by omega) (by omega) rcC_len W base v L c (rcC_one c (slT_one hc.2)) h2 N hsrc (by omega) hb ty
  rw [h1] at hr k1
  have ho := grown_ts k2 h2
  refine ⟨A, cap, W', hr, ⟨L ++ [c], by simp [h1], k1, fun i d f hd hf => ?_⟩, ho⟩
  rcases Nat.lt_or_ge i L.length with hi | hi
  · rw [List.getElem?_append_left hi] at hd
    rw [List.getElem?_append_left (by omega)] at hf
    obtain ⟨a1, a2⟩ := h3 i d f hd hf
    exact ⟨a1, a2.ts ho (by decide)⟩
  · rw [List.getElem?_append_right hi] at hd
    rw [List.getElem?_append_right (by omega), ← h1] at hf
    cases hq : i - L.length with
    | zero =>
      rw [hq] at hd hf
      simp only [List.getElem?_cons_zero, Option.some.injEq] at hd hf
      subst hd
      subst hf
      exact ⟨hc.1, hc.2.ts ho (by decide)⟩
    | succ q => rw [hq] at hd; simp at hd
theorem EnOwn.ts {w w' : World} {base base' n : Nat} {ts : List TypeId} {v : Value} {es : List En} (h : EnOwn w base v n es) (ho : Only (TS base' w ts) w w') (h1 : 37 ∉ ts) (h2 : 84 ∉ ts) : EnOwn w' base v n es := h.keep ho (fun _ _ hs => ⟨fun hb => h1 (hs.2 _ _ hb), fun hb => h2 (hs.2 _ _ hb)⟩)
/-- What the reading of a price text answers. -/
def PRdE (s : ByteArray) (w : World) (e : Ending) (w' : World) : Prop := ∃ ev rv code es rs, e = .returned (.tuple #[ev, rv, .int .i64 code]) ∧ EnOwn w' w.heap.size ev es.length es ∧ RbOwn w' w.heap.size rv rs.length rs ∧ ((code = 0 ∧ PRd s.data.toList es rs) ∨ (code = 11 ∧ es = [] ∧ rs = [] ∧ ∀ fs us, ¬ PRd s.data.toList fs us)) ∧ Only NoneOf w w'
theorem PRdE.bad {s : ByteArray} {w w' : World} (h : ∀ fs us, ¬ PRd s.data.toList fs us) (ho : Only NoneOf w w') : PRdE s w (.returned (.tuple #[.slice none 0 0, .slice none 0 0, .int .i64 11])) w' := ⟨_, _, _, [], [], rfl, EnOwn.nil _ _, RbOwn.nil _ _, .inr ⟨rfl, rfl, rfl, h⟩, ho⟩
theorem PRdE.ok {s : ByteArray} {w w' : World} {ev rv : Value} {es : List En} {rs : List Rb} (h : PRd s.data.toList es rs) (k : EnOwn w' w.heap.size ev es.length es) (k2 : RbOwn w' w.heap.size rv rs.length rs) (ho : Only NoneOf w w') : PRdE s w (.returned (.tuple #[ev, rv, .int .i64 0])) w' := ⟨_, _, _, es, rs, rfl, k, k2, .inl ⟨rfl, h⟩, ho⟩
end Go.Proofs.YtpdlbmieciabmaaGreatDoor
