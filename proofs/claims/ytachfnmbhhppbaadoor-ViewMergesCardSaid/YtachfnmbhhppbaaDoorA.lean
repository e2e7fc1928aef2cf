/- Small walks. -/
import Derived.Test.YtachfnmbhhppbaaDoorRows
import Derived.WalkKit
import Derived.WalkSpells
import Derived.WalkLawsBesides
import Derived.Lib.Hide
import Derived.BigQuiet
import Derived.Deep.QuietTactic
import Derived.Deep.RegionHeld3
import Derived.Outline
namespace Go.Proofs.YtachfnmbhhppbaaDoor
set_option maxRecDepth 100000
open Go.RowKit

set_option maxHeartbeats 400000 in
theorem node_any (n : Int) (w : World) :
    Calls Tryd.prog 16 #[.int .i64 n] w fun e w' => e = .returned (.bool (decide (0 ≤ n) && decide (n < 16))) ∧ w = w' := by
  by_cases h0 : 0 ≤ n
  · go_enter Tryd.func16, Tryd.ntmps16
    go_wp2
    go_ret
    exact ⟨by simp [h0], rfl⟩
  · have h1 : decide (0 ≤ n) = false := by simpa using h0
    go_enter Tryd.func16, Tryd.ntmps16
    go_wp2
    go_ret
    exact ⟨by simp [h0], rfl⟩

theorem node_yes (n : Int) (w : World) (h0 : 0 ≤ n) (h1 : n < 16) : Calls Tryd.prog 16 #[.int .i64 n] w fun e w' => e = .returned (.bool true) ∧ w = w' :=
  (node_any n w).mono fun e w' ⟨h, hw⟩ => ⟨by rw [h]; simp [h0, h1], hw⟩
theorem node_no (n : Int) (w : World) (h0 : ¬ (0 ≤ n ∧ n < 16)) : Calls Tryd.prog 16 #[.int .i64 n] w fun e w' => e = .returned (.bool false) ∧ w = w' :=
  (node_any n w).mono fun e w' ⟨h, hw⟩ => ⟨by rw [h]; simp; omega, hw⟩

set_option maxHeartbeats 400000 in
theorem isNaN_any (n : Int) (w : World) :
    Calls Tryd.prog 37 #[.int .i64 n] w fun e w' => e = .returned (.bool false) ∧ w = w' := by
  go_enter Tryd.func37, Tryd.ntmps37
  go_wp2
  go_ret
  exact ⟨by simp, rfl⟩

def cmp3 (a b : Int) : Int := if a < b then -1 else if b < a then 1 else 0

set_option maxHeartbeats 400000 in
theorem cmp_any (a b : Int) (w : World) :
    Calls Tryd.prog 32 #[.int .i64 a, .int .i64 b] w fun e w' => e = .returned (.int .i64 (cmp3 a b)) ∧ w = w' := by
  go_enter Tryd.func32, Tryd.ntmps32
  go_wp2_with (go_at_call 37; refine (isNaN_any _ _).mono ?_; rintro e w' ⟨rfl, rfl⟩)
  all_goals go_ret
  all_goals (refine ⟨?_, rfl⟩; unfold cmp3; (repeat' split) <;> first | rfl | (exfalso; omega))
end Go.Proofs.YtachfnmbhhppbaaDoor
