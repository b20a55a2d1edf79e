/-
  What two kinds become by the program's four meetings: the closures of meetingOf, and the one of rulesOf. Condition: kinds below 4.
-/
import Derived.Test.YtlniogfinofakaaGreatDoorRuAv
import Derived.Deep.QuietTactic
import Derived.BigQuiet
namespace Go.Proofs.YtlniogfinofakaaGreatDoor
set_option maxRecDepth 100000
set_option linter.unusedVariables false
set_option maxRecDepth 100000
open Go.RowKit

theorem below2 {a : Nat} (h : a < 2) : a = 0 ∨ a = 1 := by omega
theorem below4 {a : Nat} (h : a < 4) : a = 0 ∨ a = 1 ∨ a = 2 ∨ a = 3 := by omega
def turnedN (o p : Nat) : Int := lsII [[0, 0, 0, 0], [1, 1, 1, 1], [2, 3, 2, 2], [2, 3, 3, 3]] o p
set_option maxHeartbeats 4000000 in
theorem turned_any (o p : Nat) (ho : o < 4) (hp : p < 4) (w : World) : Calls Tryz.prog 124 #[.int .i64 o, .int .i64 p] w fun e w' => e = .returned (.int .i64 (turnedN o p)) ∧ w = w' := by
  rcases below4 ho with rfl | rfl | rfl | rfl <;> rcases below4 hp with rfl | rfl | rfl | rfl <;>
  · go_enter Tryz.func124, Tryz.ntmps124
    go_wp2
    go_ret
    exact ⟨rfl, rfl⟩
set_option maxHeartbeats 4000000 in
theorem meet1_any (o p : Nat) (ho : o < 2) (hp : p < 2) (w : World) : Calls Tryz.prog 121 #[.int .i64 o, .int .i64 p] w fun e w' => e = .returned (.int .i64 (lsII [[0, 1], [1, 1]] o p)) ∧ w = w' := by
  rcases below2 ho with rfl | rfl <;> rcases below2 hp with rfl | rfl <;>
  · go_enter Tryz.func121, Tryz.ntmps121
    go_wp2
    go_ret
    exact ⟨rfl, rfl⟩
set_option maxHeartbeats 4000000 in
theorem meet2_any (o p : Nat) (ho : o < 4) (hp : p < 4) (w : World) : Calls Tryz.prog 122 #[.int .i64 o, .int .i64 p] w fun e w' => e = .returned (.tuple #[.int .i64 (lsII [[0, 1, 2, 3], [1, 2, 3, 3], [2, 3, 3, 3], [3, 3, 3, 3]] o p), .int .i64 (lsII [[0, 0, 0, 3], [0, 0, 3, 3], [0, 3, 3, 3], [3, 3, 3, 3]] o p)]) ∧ w = w' := by
  rcases below4 ho with rfl | rfl | rfl | rfl <;> rcases below4 hp with rfl | rfl | rfl | rfl <;>
  · go_enter Tryz.func122, Tryz.ntmps122
    go_wp2
    (refine bodyPost_ret (v := .tuple #[.int .i64 (lsII [[0, 1, 2, 3], [1, 2, 3, 3], [2, 3, 3, 3], [3, 3, 3, 3]] _ _), .int .i64 (lsII [[0, 0, 0, 3], [0, 0, 3, 3], [0, 3, 3, 3], [3, 3, 3, 3]] _ _)]) ?_ rfl ⟨rfl, rfl⟩; first | rfl | (simp [results, Tryz.results122, go_sem, lsII]; done) | (simp [results, Tryz.results122, go_sem, lsII]; decide))
set_option maxHeartbeats 4000000 in
theorem meet3_any (o p : Nat) (ho : o < 4) (hp : p < 4) (w : World) : Calls Tryz.prog 123 #[.int .i64 o, .int .i64 p] w fun e w' => e = .returned (.int .i64 (lsII [[0, 2, 0, 0], [2, 1, 1, 1], [2, 3, 2, 2], [2, 3, 2, 3]] o p)) ∧ w = w' := by
  rcases below4 ho with rfl | rfl | rfl | rfl <;> rcases below4 hp with rfl | rfl | rfl | rfl <;>
  · go_enter Tryz.func123, Tryz.ntmps123
    first
    | (go_wp2; go_ret; exact ⟨rfl, rfl⟩)
    | (go_wp2_with fail
       refine (turned_any _ _ (by omega) (by omega) _).mono ?_
       rintro e w1 ⟨rfl, rfl⟩
       go_wp2
       go_ret
       exact ⟨rfl, rfl⟩)
set_option maxHeartbeats 8000000 in
theorem meet4_any (o p : Nat) (ho : o < 4) (hp : p < 4) (w : World) : Calls Tryz.prog 125 #[.int .i64 o, .int .i64 p] w fun e w' => e = .returned (.tuple #[.int .i64 (lsII [[0, 1, 0, 0], [1, 0, 1, 1], [2, 3, 2, 2], [2, 3, 3, 3]] o p), .int .i64 (lsII [[2, 3, 2, 2], [3, 2, 3, 3], [0, 1, 2, 3], [0, 1, 2, 3]] o p)]) ∧ w = w' := by
  rcases below4 ho with rfl | rfl | rfl | rfl <;> rcases below4 hp with rfl | rfl | rfl | rfl <;>
  · go_enter Tryz.func125, Tryz.ntmps125
    first
    | (go_wp2; (refine bodyPost_ret (v := .tuple #[.int .i64 (lsII [[0, 1, 0, 0], [1, 0, 1, 1], [2, 3, 2, 2], [2, 3, 3, 3]] _ _), .int .i64 (lsII [[2, 3, 2, 2], [3, 2, 3, 3], [0, 1, 2, 3], [0, 1, 2, 3]] _ _)]) ?_ rfl ⟨rfl, rfl⟩; first | rfl | (simp [results, Tryz.results125, go_sem, lsII]; done) | (simp [results, Tryz.results125, go_sem, lsII]; decide +kernel)))
    | (go_wp2_with fail
       refine (turned_any _ _ (by omega) (by omega) _).mono ?_
       rintro e w1 ⟨rfl, rfl⟩
       go_wp2_with fail
       refine (turned_any _ _ (by omega) (by omega) _).mono ?_
       rintro e w1 ⟨rfl, rfl⟩
       go_wp2
       (refine bodyPost_ret (v := .tuple #[.int .i64 (lsII [[0, 1, 0, 0], [1, 0, 1, 1], [2, 3, 2, 2], [2, 3, 3, 3]] _ _), .int .i64 (lsII [[2, 3, 2, 2], [3, 2, 3, 3], [0, 1, 2, 3], [0, 1, 2, 3]] _ _)]) ?_ rfl ⟨rfl, rfl⟩; first | rfl | (simp [results, Tryz.results125, go_sem, lsII]; done) | (simp [results, Tryz.results125, go_sem, lsII]; decide +kernel)))
end Go.Proofs.YtlniogfinofakaaGreatDoor
