/- What is proved here: how many officers certify, by the program and by the reference. Condition: the number is an int. -/
import Derived.Test.YtoehfainhmfghaaDoorQuA
namespace Go.Proofs.YtoehfainhmfghaaDoor
open Go.RowKit
def needI (n : Int) : Int := if n ≤ 0 then 1 else 2 * (n / 3) + n % 3 * 2 / 3 + 1
theorem needI_nat (n : Nat) : needI (n : Int) = (need n : Int) := by
  unfold needI need
  split
  · have : n = 0 := by omega
    subst this; rfl
  · omega
set_option maxHeartbeats 1000000 in
theorem qneed_any (n : Int) (hn : In n) (w : World) : Calls Tryd.prog 5 #[.int .i64 n] w fun e w' => e = .returned (.int .i64 (needI n)) ∧ w' = w := by
  obtain ⟨h0, h1⟩ := hn
  go_enter Tryd.func5, Tryd.ntmps5
  go_wp2_with fail
  go_ret
  exact ⟨ret_int (by unfold needI; split <;> omega), rfl⟩
set_option maxHeartbeats 1000000 in
theorem rqneed_any (n : Int) (hn : In n) (w : World) : Calls Tryd.prog 6 #[.int .i64 n] w fun e w' => e = .returned (.int .i64 (needI n)) ∧ w' = w := by
  obtain ⟨h0, h1⟩ := hn
  go_enter Tryd.func6, Tryd.ntmps6
  go_wp2_with fail
  all_goals
    go_ret
    exact ⟨ret_int (by unfold needI; split <;> omega), rfl⟩
end Go.Proofs.YtoehfainhmfghaaDoor
