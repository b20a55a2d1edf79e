/-
  The contracts of functions of slices on []int: Index, Contains, Clip, Equal, Max, Repeat of one number. Conditions: bounds on lengths in each statement.
-/
import Derived.Test.YtaejakejnllimaaFunc
import Derived.Test.YtaejakejnllimaaOwnSet
import Derived.Laws.CopyOwn
import Derived.Deep.QuietTactic
import Derived.BigQuiet
namespace Go.Proofs.Ytaejakejnllimaa
set_option maxRecDepth 100000
open Go.RowKit

set_option maxHeartbeats 400000 in
theorem slClip_any (g n c : Nat) (w : World) (hn : n ≤ c) :
    Calls Try.prog 61 #[.slice (some ⟨g, 0, none⟩) n c] w fun e w' => e = .returned (.slice (some ⟨g, 0, none⟩) n n) ∧ w = w' := by
  go_enter Try.func61, Try.ntmps61
  go_wp2
  go_ret
  exact ⟨rfl, rfl⟩
theorem own_clip {w : World} {lo g n c : Nat} {l : List Int} (h : OwnInts w lo (some ⟨g, 0, none⟩) n c l) : n ≤ c ∧ c ≤ 9223372036854775807 := by
  rcases h.2 with ⟨e, h0⟩ | ⟨g', cap, cur, e, hg, r1, r2, r3, r4, r5⟩
  · cases e
  · cases e
    exact ⟨r2, by unfold maxLen at r3; omega⟩
set_option maxHeartbeats 400000 in
theorem slEqual_any (a b : Option Addr) (n c m d : Nat) (x y : Nat → Int) (w : World) (hn : n ≤ 9223372036854775807) (hm : m ≤ 9223372036854775807) (hx : Ints w a n x) (hy : Ints w b m y) :
    Calls Try.prog 64 #[.slice a n c, .slice b m d] w fun e w' => e = .returned (.bool (decide (n = m) && !anyB (fun i => x i != y i) n)) ∧ Keeps w w' := by
  have HX := Lib.hid hx
  have HY := Lib.hid hy
  clear hx hy
  by_cases hnm : n = m
  · subst hnm
    have hne : ((n : Int) != (n : Int)) = false := by simp
    have HV : Hid (∀ b, (!b) = (decide (n = n) && !b)) := Lib.hid (fun b => by simp)
    go_enter Try.func64, Try.ntmps64
    go_wp2
    go_loopw [13] (fun i wr => ∃ k : Nat, k ≤ n ∧ i = .int .i64 k ∧ Hid (anyB (fun i => x i != y i) k = false) ∧ Keeps w wr) (fun i _ => n - (intOf i).toNat)
    case atStart => exact ⟨0, by omega, rfl, Lib.hid rfl, Keeps.refl _⟩
    case round =>
      obtain ⟨k, hk, rfl, hb, hK⟩ := hrel
      by_cases hlt : k < n
      · have hlt' : (k : Int) < n := by omega
        obtain ⟨b1, o1, e1, hc1⟩ := HX.out.keeps hK k hlt
        obtain ⟨b2, o2, e2, hc2⟩ := HY.out.keeps hK k hlt
        subst e1
        subst e2
        have HS := Lib.hid (show anyB (fun i => x i != y i) (k + 1) = (anyB (fun i => x i != y i) k || (x k != y k)) from rfl)
        have HB2 : Hid ((x k != y k) = true → anyB (fun i => x i != y i) n = true) := Lib.hid (fun h => (anyB_iff _ _).2 ⟨k, hlt, h⟩)
        generalize x k = u at *
        generalize y k = v at *
        cases hpk : (u != v)
        · have HP := Lib.hid hpk
          go_wp2_with fail
          go_quiet (fail)
          go_wp2
          go_roundw
          case rel => exact ⟨k + 1, by omega, by go_num, Lib.hid (by rw [HS.out, hb.out, HP.out]; rfl), hK.step (Keeps.drewN _ _)⟩
          case measure => simp [intOf]; omega
        · have HP := Lib.hid hpk
          go_wp2_with fail
          go_quiet (fail)
          go_wp2
          go_ret
          exact ⟨ret_bool (by rw [HB2.out HP.out]; simp), hK.step (Keeps.drewN _ _)⟩
      · obtain rfl : k = n := by omega
        go_wp2
        go_ret
        exact ⟨ret_bool (by rw [hb.out]; simp), hK⟩
  · have hne : ((n : Int) != (m : Int)) = true := by simp; omega
    have HV : Hid (false = (decide (n = m) && !anyB (fun i => x i != y i) n)) := Lib.hid (by simp [hnm])
    clear hnm
    go_enter Try.func64, Try.ntmps64
    go_wp2
    go_ret
    exact ⟨ret_bool HV.out, Keeps.refl _⟩
/-- The greatest of the first k + 1 numbers. -/
def topF (x : Nat → Int) : Nat → Int
  | 0 => x 0
  | k + 1 => max (topF x k) (x (k + 1))
theorem topF_ge (x : Nat → Int) : ∀ k i, i ≤ k → x i ≤ topF x k
  | 0, i, h => by rw [show i = 0 by omega]; exact Int.le_refl _
  | k + 1, i, h => by
    unfold topF
    by_cases e : i = k + 1
    · rw [e]; omega
    · have := topF_ge x k i (by omega); omega
theorem topF_at (x : Nat → Int) : ∀ k, ∃ i, i ≤ k ∧ topF x k = x i
  | 0 => ⟨0, by omega, rfl⟩
  | k + 1 => by
    obtain ⟨i, hi, e⟩ := topF_at x k
    by_cases h : topF x k ≤ x (k + 1)
    · exact ⟨k + 1, by omega, by unfold topF; omega⟩
    · exact ⟨i, by omega, by unfold topF; omega⟩
theorem own_of_blk {w : World} {lo g n : Nat} {l : List Int} (hg : w.heap[g]? = some (.cells (l.map (Value.int .i64)).toArray 3 (0, 0))) (hlo : lo ≤ g) (hl : l.length = n) (hn : n ≤ 1099511627776) : OwnInts w lo (some ⟨g, 0, none⟩) n n l := by
  subst hl
  refine ⟨by simp, .inr ⟨g, l.length, _, rfl, hlo, hg, Nat.le_refl _, by unfold maxLen; omega, by simp, by simp [List.take_of_length_le]⟩⟩
theorem splice_fill (n k c : Nat) (v : Int) (h : k + c ≤ n) : splice ((il n (fun i => if i < k then v else 0)).map (Value.int .i64)) k (List.replicate c (.int .i64 v)) = (il n (fun i => if i < k + c then v else 0)).map (Value.int .i64) := by
  apply List.ext_getElem?
  intro i
  unfold splice
  by_cases h1 : i < k
  · rw [List.getElem?_append_left (by simp [il]; omega)]
    simp [il, h1, show i < n by omega, show i < k + c by omega]
  · rw [List.getElem?_append_right (by simp [il]; omega)]
    by_cases h2 : i < k + c
    · rw [List.getElem?_append_left (by simp [il]; omega)]
      simp [il, h2, show i < n by omega, show i - min k n < c by omega]
    · rw [List.getElem?_append_right (by simp [il]; omega)]
      by_cases h3 : i < n
      · simp [il, h1, h2, h3, show k + c + (i - min k n - c) = i by omega]
      · simp [il, h3, show ¬ (k + c + (i - min k n - c)) < n by omega]
theorem il_fill0 (n : Nat) (v : Int) : (il n (fun i => if i < 0 then v else 0)).map (Value.int .i64) = List.replicate n (.int .i64 0) := by
  rw [il_congr n _ (fun _ => 0) (fun i _ => by simp), ← il_zero]; simp
theorem one_cell {w : World} {d : Nat} {v : Value} (h : w.cell? ⟨d, 0, none⟩ = some v) : ∀ j u, (List.replicate 1 v)[j]? = some u → w.cell? ((⟨d, 0, none⟩ : Addr).add j) = some u := fun j u hj => by
  cases j with
  | zero => simp at hj; subst hj; rw [Addr.add_lit]; exact h
  | succ j => simp at hj
theorem info_int1 : (Try.prog.info? 3).map (·.size) = some 1 := by kernel_rfl
end Go.Proofs.Ytaejakejnllimaa
