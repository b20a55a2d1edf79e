/-
  The contracts of functions of slices on []int: Index, Contains, Clip, Equal, Max, Repeat of one number. Conditions: bounds on lengths in each statement.
-/
import Derived.Test.YtpgipkcbdppplaaFunc
import Derived.Test.YtpgipkcbdppplaaOwnSet
import Derived.Laws.CopyOwn
import Derived.Deep.QuietTactic
import Derived.BigQuiet
namespace Go.Proofs.Ytpgipkcbdppplaa
open Go.RowKit

set_option maxHeartbeats 400000 in
theorem slIndex_any (a : Option Addr) (n c : Nat) (x : Nat → Int) (v : Int) (w : World) (hn : n ≤ 9223372036854775807) (hE : Ints w a n x) :
    Calls Try.prog 48 #[.slice a n c, .int .i64 v] w fun e w' => e = .returned (.int .i64 (idxB (fun q => v == x q) n)) ∧ w = w' := by
  have HE := Lib.hid hE
  clear hE
  go_enter Try.func48, Try.ntmps48
  go_wp2
  go_loop [8] (fun i => ∃ k : Nat, k ≤ n ∧ i = .int .i64 k ∧ Hid (∀ j, j < k → (v == x j) = false)) (fun i => n - (intOf i).toNat)
  case atStart => exact ⟨0, by omega, rfl, Lib.hid (fun _ h => absurd h (Nat.not_lt_zero _))⟩
  case round =>
    obtain ⟨k, hk, rfl, hb⟩ := hrel
    by_cases hlt : k < n
    · have hlt' : (k : Int) < n := by omega
      obtain ⟨b, off, e, hc⟩ := HE.out k hlt
      subst e
      cases hpk : (v == x k)
      · have HP := Lib.hid hpk
        go_wp2
        go_round
        case rel =>
          refine ⟨k + 1, by omega, by go_num, Lib.hid (fun j hj => ?_)⟩
          by_cases hjk : j = k
          · rw [hjk]; exact HP.out
          · exact hb.out j (by omega)
        case measure => simp [intOf]; omega
      · have HP := Lib.hid hpk
        go_wp2
        go_ret
        exact ⟨ret_int (idxB_at (fun q => v == x q) n k hlt HP.out hb.out), rfl⟩
    · have : k = n := by omega
      subst this
      go_wp2
      go_ret
      exact ⟨ret_int (idxB_none (fun q => v == x q) k hb.out), rfl⟩
set_option maxHeartbeats 400000 in
theorem slContains_any (a : Option Addr) (n c : Nat) (x : Nat → Int) (v : Int) (w : World) (hn : n ≤ 9223372036854775807) (hE : Ints w a n x) :
    Calls Try.prog 32 #[.slice a n c, .int .i64 v] w fun e w' => e = .returned (.bool (anyB (fun q => v == x q) n)) ∧ w = w' := by
  have HG := Lib.hid (idxB_ge (fun q => v == x q) n)
  have HC := Lib.hid (slIndex_any a n c x v w hn hE)
  clear hE
  go_enter Try.func32, Try.ntmps32
  go_wp2_with fail
  refine HC.out.mono ?_
  rintro e w1 ⟨rfl, rfl⟩
  go_wp2
  go_ret
  exact ⟨ret_bool HG.out, rfl⟩
set_option maxHeartbeats 400000 in
theorem slClip_any (g n c : Nat) (w : World) (hn : n ≤ c) :
    Calls Try.prog 35 #[.slice (some ⟨g, 0, none⟩) n c] w fun e w' => e = .returned (.slice (some ⟨g, 0, none⟩) n n) ∧ w = w' := by
  go_enter Try.func35, Try.ntmps35
  go_wp2
  go_ret
  exact ⟨rfl, rfl⟩
theorem own_clip {w : World} {lo g n c : Nat} {l : List Int} (h : OwnInts w lo (some ⟨g, 0, none⟩) n c l) : n ≤ c ∧ c ≤ 9223372036854775807 := by
  rcases h.2 with ⟨e, h0⟩ | ⟨g', cap, cur, e, hg, r1, r2, r3, r4, r5⟩
  · cases e
  · cases e
    exact ⟨r2, by unfold maxLen at r3; omega⟩
/-- The greatest of the first k + 1 numbers. -/
def topF (x : Nat → Int) : Nat → Int
  | 0 => x 0
  | k + 1 => max (topF x k) (x (k + 1))
theorem topF_ge (x : Nat → Int) : ∀ k i, i ≤ k → x i ≤ topF x k
  | 0, i, h => by rw [show i = 0 by omega]; exact Int.le_refl _
  | k + 1, i, h => by
    unfold topF
    by_cases e : i = k + 1
    · rw [e]; omega
    · have := topF_ge x k i (by omega); omega
theorem topF_at (x : Nat → Int) : ∀ k, ∃ i, i ≤ k ∧ topF x k = x i
  | 0 => ⟨0, by omega, rfl⟩
  | k + 1 => by
    obtain ⟨i, hi, e⟩ := topF_at x k
    by_cases h : topF x k ≤ x (k + 1)
    · exact ⟨k + 1, by omega, by unfold topF; omega⟩
    · exact ⟨i, by omega, by unfold topF; omega⟩
theorem own_of_blk {w : World} {lo g n : Nat} {l : List Int} (hg : w.heap[g]? = some (.cells (l.map (Value.int .i64)).toArray 3 (0, 0))) (hlo : lo ≤ g) (hl : l.length = n) (hn : n ≤ 1099511627776) : OwnInts w lo (some ⟨g, 0, none⟩) n n l := by
  subst hl
  refine ⟨by simp, .inr ⟨g, l.length, _, rfl, hlo, hg, Nat.le_refl _, by unfold maxLen; omega, by simp, by simp [List.take_of_length_le]⟩⟩
theorem splice_fill (n k c : Nat) (v : Int) (h : k + c ≤ n) : splice ((il n (fun i => if i < k then v else 0)).map (Value.int .i64)) k (List.replicate c (.int .i64 v)) = (il n (fun i => if i < k + c then v else 0)).map (Value.int .i64) := by
  apply List.ext_getElem?
  intro i
  unfold splice
  by_cases h1 : i < k
  · rw [List.getElem?_append_left (by simp [il]; omega)]
    simp [il, h1, show i < n by omega, show i < k + c by omega]
  · rw [List.getElem?_append_right (by simp [il]; omega)]
    by_cases h2 : i < k + c
    · rw [List.getElem?_append_left (by simp [il]; omega)]
      simp [il, h2, show i < n by omega, show i - min k n < c by omega]
    · rw [List.getElem?_append_right (by simp [il]; omega)]
      by_cases h3 : i < n
      · simp [il, h1, h2, h3, show k + c + (i - min k n - c) = i by omega]
      · simp [il, h3, show ¬ (k + c + (i - min k n - c)) < n by omega]
theorem il_fill0 (n : Nat) (v : Int) : (il n (fun i => if i < 0 then v else 0)).map (Value.int .i64) = List.replicate n (.int .i64 0) := by
  rw [il_congr n _ (fun _ => 0) (fun i _ => by simp), ← il_zero]; simp
theorem one_cell {w : World} {d : Nat} {v : Value} (h : w.cell? ⟨d, 0, none⟩ = some v) : ∀ j u, (List.replicate 1 v)[j]? = some u → w.cell? ((⟨d, 0, none⟩ : Addr).add j) = some u := fun j u hj => by
  cases j with
  | zero => simp at hj; subst hj; rw [Addr.add_lit]; exact h
  | succ j => simp at hj
theorem info_int1 : (Try.prog.info? 3).map (·.size) = some 1 := by kernel_rfl
end Go.Proofs.Ytpgipkcbdppplaa
