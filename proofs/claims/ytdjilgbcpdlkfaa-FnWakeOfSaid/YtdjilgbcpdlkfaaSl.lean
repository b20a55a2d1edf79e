/-
  The contracts of functions of slices on []int: Index, Contains, Clip, Equal, Max, Repeat of one number. Conditions: bounds on lengths in each statement.
-/
import Derived.Test.YtdjilgbcpdlkfaaFunc
import Derived.Test.YtdjilgbcpdlkfaaOwnSet
import Derived.Laws.CopyOwn
import Derived.Deep.QuietTactic
import Derived.BigQuiet
namespace Go.Proofs.Ytdjilgbcpdlkfaa
open Go.RowKit

set_option maxHeartbeats 400000 in
theorem slIndex_any (a : Option Addr) (n c : Nat) (x : Nat → Int) (v : Int) (w : World) (hn : n ≤ 9223372036854775807) (hE : Ints w a n x) :
    Calls Try.prog 74 #[.slice a n c, .int .i64 v] w fun e w' => e = .returned (.int .i64 (idxB (fun q => v == x q) n)) ∧ w = w' := by
  have HE := Lib.hid hE
  clear hE
  go_enter Try.func74, Try.ntmps74
  go_wp2
  go_loop [8] (fun i => ∃ k : Nat, k ≤ n ∧ i = .int .i64 k ∧ Hid (∀ j, j < k → (v == x j) = false)) (fun i => n - (intOf i).toNat)
  case atStart => exact ⟨0, by omega, rfl, Lib.hid (fun _ h => absurd h (Nat.not_lt_zero _))⟩
  case round =>
    obtain ⟨k, hk, rfl, hb⟩ := hrel
    by_cases hlt : k < n
    · have hlt' : (k : Int) < n := by omega
      obtain ⟨b, off, e, hc⟩ := HE.out k hlt
      subst e
      cases hpk : (v == x k)
      · have HP := Lib.hid hpk
        go_wp2
        go_round
        case rel =>
          refine ⟨k + 1, by omega, by go_num, Lib.hid (fun j hj => ?_)⟩
          by_cases hjk : j = k
          · rw [hjk]; exact HP.out
          · exact hb.out j (by omega)
        case measure => simp [intOf]; omega
      · have HP := Lib.hid hpk
        go_wp2
        go_ret
        exact ⟨ret_int (idxB_at (fun q => v == x q) n k hlt HP.out hb.out), rfl⟩
    · have : k = n := by omega
      subst this
      go_wp2
      go_ret
      exact ⟨ret_int (idxB_none (fun q => v == x q) k hb.out), rfl⟩
set_option maxHeartbeats 400000 in
theorem slContains_any (a : Option Addr) (n c : Nat) (x : Nat → Int) (v : Int) (w : World) (hn : n ≤ 9223372036854775807) (hE : Ints w a n x) :
    Calls Try.prog 54 #[.slice a n c, .int .i64 v] w fun e w' => e = .returned (.bool (anyB (fun q => v == x q) n)) ∧ w = w' := by
  have HG := Lib.hid (idxB_ge (fun q => v == x q) n)
  have HC := Lib.hid (slIndex_any a n c x v w hn hE)
  clear hE
  go_enter Try.func54, Try.ntmps54
  go_wp2_with fail
  refine HC.out.mono ?_
  rintro e w1 ⟨rfl, rfl⟩
  go_wp2
  go_ret
  exact ⟨ret_bool HG.out, rfl⟩
set_option maxHeartbeats 400000 in
theorem slClip_any (g n c : Nat) (w : World) (hn : n ≤ c) :
    Calls Try.prog 49 #[.slice (some ⟨g, 0, none⟩) n c] w fun e w' => e = .returned (.slice (some ⟨g, 0, none⟩) n n) ∧ w = w' := by
  go_enter Try.func49, Try.ntmps49
  go_wp2
  go_ret
  exact ⟨rfl, rfl⟩
theorem own_clip {w : World} {lo g n c : Nat} {l : List Int} (h : OwnInts w lo (some ⟨g, 0, none⟩) n c l) : n ≤ c ∧ c ≤ 9223372036854775807 := by
  rcases h.2 with ⟨e, h0⟩ | ⟨g', cap, cur, e, hg, r1, r2, r3, r4, r5⟩
  · cases e
  · cases e
    exact ⟨r2, by unfold maxLen at r3; omega⟩
set_option maxHeartbeats 400000 in
theorem slEqual_any (a b : Option Addr) (n c m d : Nat) (x y : Nat → Int) (w : World) (hn : n ≤ 9223372036854775807) (hm : m ≤ 9223372036854775807) (hx : Ints w a n x) (hy : Ints w b m y) :
    Calls Try.prog 69 #[.slice a n c, .slice b m d] w fun e w' => e = .returned (.bool (decide (n = m) && !anyB (fun i => x i != y i) n)) ∧ Keeps w w' := by
  have HX := Lib.hid hx
  have HY := Lib.hid hy
  clear hx hy
  by_cases hnm : n = m
  · subst hnm
    have hne : ((n : Int) != (n : Int)) = false := by simp
    have HV : Hid (∀ b, (!b) = (decide (n = n) && !b)) := Lib.hid (fun b => by simp)
    go_enter Try.func69, Try.ntmps69
    go_wp2
    go_loopw [13] (fun i wr => ∃ k : Nat, k ≤ n ∧ i = .int .i64 k ∧ Hid (anyB (fun i => x i != y i) k = false) ∧ Keeps w wr) (fun i _ => n - (intOf i).toNat)
    case atStart => exact ⟨0, by omega, rfl, Lib.hid rfl, Keeps.refl _⟩
    case round =>
      obtain ⟨k, hk, rfl, hb, hK⟩ := hrel
      by_cases hlt : k < n
      · have hlt' : (k : Int) < n := by omega
        obtain ⟨b1, o1, e1, hc1⟩ := HX.out.keeps hK k hlt
        obtain ⟨b2, o2, e2, hc2⟩ := HY.out.keeps hK k hlt
        subst e1
        subst e2
        have HS := Lib.hid (show anyB (fun i => x i != y i) (k + 1) = (anyB (fun i => x i != y i) k || (x k != y k)) from rfl)
        have HB2 : Hid ((x k != y k) = true → anyB (fun i => x i != y i) n = true) := Lib.hid (fun h => (anyB_iff _ _).2 ⟨k, hlt, h⟩)
        generalize x k = u at *
        generalize y k = v at *
        cases hpk : (u != v)
        · have HP := Lib.hid hpk
          go_wp2_with fail
          go_quiet (fail)
          go_wp2
          go_roundw
          case rel => exact ⟨k + 1, by omega, by go_num, Lib.hid (by rw [HS.out, hb.out, HP.out]; rfl), hK.step (Keeps.drewN _ _)⟩
          case measure => simp [intOf]; omega
        · have HP := Lib.hid hpk
          go_wp2_with fail
          go_quiet (fail)
          go_wp2
          go_ret
          exact ⟨ret_bool (by rw [HB2.out HP.out]; simp), hK.step (Keeps.drewN _ _)⟩
      · obtain rfl : k = n := by omega
        go_wp2
        go_ret
        exact ⟨ret_bool (by rw [hb.out]; simp), hK⟩
  · have hne : ((n : Int) != (m : Int)) = true := by simp; omega
    have HV : Hid (false = (decide (n = m) && !anyB (fun i => x i != y i) n)) := Lib.hid (by simp [hnm])
    clear hnm
    go_enter Try.func69, Try.ntmps69
    go_wp2
    go_ret
    exact ⟨ret_bool HV.out, Keeps.refl _⟩
/-- The greatest of the first k + 1 numbers. -/
def topF (x : Nat → Int) : Nat → Int
  | 0 => x 0
  | k + 1 => max (topF x k) (x (k + 1))
theorem topF_ge (x : Nat → Int) : ∀ k i, i ≤ k → x i ≤ topF x k
  | 0, i, h => by rw [show i = 0 by omega]; exact Int.le_refl _
  | k + 1, i, h => by
    unfold topF
    by_cases e : i = k + 1
    · rw [e]; omega
    · have := topF_ge x k i (by omega); omega
theorem topF_at (x : Nat → Int) : ∀ k, ∃ i, i ≤ k ∧ topF x k = x i
  | 0 => ⟨0, by omega, rfl⟩
  | k + 1 => by
    obtain ⟨i, hi, e⟩ := topF_at x k
    by_cases h : topF x k ≤ x (k + 1)
    · exact ⟨k + 1, by omega, by unfold topF; omega⟩
    · exact ⟨i, by omega, by unfold topF; omega⟩
set_option maxHeartbeats 1000000 in
theorem slMax_any (A : Option Addr) (m c : Nat) (x : Nat → Int) (w : World) (hm : m + 1 ≤ 1099511627776) (hI : Ints w A (m + 1) x) :
    Calls Try.prog 56 #[.slice A (m + 1) c] w fun e w' => e = .returned (.int .i64 (topF x m)) ∧ w = w' := by
  have HI := Lib.hid hI
  obtain ⟨d, off, rfl, hc0⟩ := hI 0 (by omega)
  clear hI
  obtain ⟨n, hn⟩ : ∃ n, n = m + 1 := ⟨_, rfl⟩
  rw [← hn] at hm HI ⊢
  have HN := Lib.hid hn
  have hn1 : (1 : Int) ≤ n := by omega
  have hn2 : (0 : Int) < n := by omega
  have hn3 : 0 < n := by omega
  have hn4 : ¬ ((n : Int) < 1) := by omega
  rw [Nat.add_zero] at hc0
  clear hn
  go_enter Try.func56, Try.ntmps56
  go_wp2_with fail
  go_loopw [4, 3] (fun i v wr => ∃ k : Nat, k < n ∧ i = .int .i64 ((k : Int) + 1) ∧ v = .int .i64 (topF x k) ∧ w = wr) (fun i _ _ => n + 1 - (intOf i).toNat)
  case atStart => exact ⟨0, by omega, by simp, rfl, rfl⟩
  case round =>
    obtain ⟨k, hk, rfl, rfl, rfl⟩ := hrel
    by_cases hlt : k + 1 < n
    · have hki : (k : Int) + 1 < n := by omega
      obtain ⟨_, _, e, hc⟩ := HI.out (k + 1) hlt
      cases e
      have HS := Lib.hid (show topF x (k + 1) = max (topF x k) (x (k + 1)) from rfl)
      generalize topF x k = v at *
      generalize x (k + 1) = z at *
      by_cases h : z ≤ v
      · have HV := Lib.hid (show topF x (k + 1) = v by rw [HS.out]; omega)
        have h' : ¬ v < z := by omega
        go_wp2
        go_roundw
        case rel => exact ⟨k + 1, by omega, by go_num, by rw [HV.out], trivial⟩
        case measure => simp [intOf]; omega
      · have HV := Lib.hid (show topF x (k + 1) = z by rw [HS.out]; omega)
        have h' : v < z := by omega
        go_wp2
        go_roundw
        case rel => exact ⟨k + 1, by omega, by go_num, by rw [HV.out], trivial⟩
        case measure => simp [intOf]; omega
    · have hki : ¬ ((k : Int) + 1 < n) := by omega
      have HV : Hid (topF x k = topF x m) := Lib.hid (by rw [show k = m by have := HN.out; omega])
      go_wp2
      go_ret
      exact ⟨ret_int HV.out, rfl⟩
theorem own_of_blk {w : World} {lo g n : Nat} {l : List Int} (hg : w.heap[g]? = some (.cells (l.map (Value.int .i64)).toArray 3 (0, 0))) (hlo : lo ≤ g) (hl : l.length = n) (hn : n ≤ 1099511627776) : OwnInts w lo (some ⟨g, 0, none⟩) n n l := by
  subst hl
  refine ⟨by simp, .inr ⟨g, l.length, _, rfl, hlo, hg, Nat.le_refl _, by unfold maxLen; omega, by simp, by simp [List.take_of_length_le]⟩⟩
theorem splice_fill (n k c : Nat) (v : Int) (h : k + c ≤ n) : splice ((il n (fun i => if i < k then v else 0)).map (Value.int .i64)) k (List.replicate c (.int .i64 v)) = (il n (fun i => if i < k + c then v else 0)).map (Value.int .i64) := by
  apply List.ext_getElem?
  intro i
  unfold splice
  by_cases h1 : i < k
  · rw [List.getElem?_append_left (by simp [il]; omega)]
    simp [il, h1, show i < n by omega, show i < k + c by omega]
  · rw [List.getElem?_append_right (by simp [il]; omega)]
    by_cases h2 : i < k + c
    · rw [List.getElem?_append_left (by simp [il]; omega)]
      simp [il, h2, show i < n by omega, show i - min k n < c by omega]
    · rw [List.getElem?_append_right (by simp [il]; omega)]
      by_cases h3 : i < n
      · simp [il, h1, h2, h3, show k + c + (i - min k n - c) = i by omega]
      · simp [il, h3, show ¬ (k + c + (i - min k n - c)) < n by omega]
theorem il_fill0 (n : Nat) (v : Int) : (il n (fun i => if i < 0 then v else 0)).map (Value.int .i64) = List.replicate n (.int .i64 0) := by
  rw [il_congr n _ (fun _ => 0) (fun i _ => by simp), ← il_zero]; simp
set_option maxHeartbeats 2000000 in
theorem mul_1 (w : World) (n : Nat) (h1 : 1 ≤ n) (h6 : n ≤ 6) : Calls Try.prog 76 #[.int .u64 1, .int .u64 n] w fun e w' => e = .returned (.tuple #[.int .u64 0, .int .u64 n]) ∧ w = w' := by
  obtain rfl | rfl | rfl | rfl | rfl | rfl : n = 1 ∨ n = 2 ∨ n = 3 ∨ n = 4 ∨ n = 5 ∨ n = 6 := by omega
  all_goals
    go_enter Try.func76, Try.ntmps76
    go_wp2
    go_ret2
    exact ⟨rfl, rfl⟩
theorem one_cell {w : World} {d : Nat} {v : Value} (h : w.cell? ⟨d, 0, none⟩ = some v) : ∀ j u, (List.replicate 1 v)[j]? = some u → w.cell? ((⟨d, 0, none⟩ : Addr).add j) = some u := fun j u hj => by
  cases j with
  | zero => simp at hj; subst hj; rw [Addr.add_lit]; exact h
  | succ j => simp at hj
theorem info_int1 : (Try.prog.info? 3).map (·.size) = some 1 := by kernel_rfl
set_option maxRecDepth 100000 in
set_option maxHeartbeats 4000000 in
theorem slRepeat_any (d n : Nat) (v : Int) (w : World) (hd : w.cell? ⟨d, 0, none⟩ = some (.int .i64 v)) (h1 : 1 ≤ n) (h6 : n ≤ 6) :
    Calls Try.prog 61 #[.slice (some ⟨d, 0, none⟩) 1 1, .int .i64 n] w fun e w' => ∃ g, e = .returned (.slice (some ⟨g, 0, none⟩) n n) ∧ OwnInts w' w.heap.size (some ⟨g, 0, none⟩) n n (il n (fun _ => v)) ∧ Keeps w w' := by
  have hmk := make_ints n (by omega)
  have hle : (1 : Int) ≤ n := by omega
  have hdk : (w.alloc (.cells (madeCells #[.int .i64 0] n) 3)).cell? ⟨d, 0, none⟩ = some (.int .i64 v) := cell_keeps (Keeps.alloc _ _) hd
  have HSP := Lib.hid (splice_fill n · · v)
  have HB0 : Hid ((w.alloc (.cells (madeCells #[.int .i64 0] n) 3)).heap[w.heap.size]? = some (.cells ((il n (fun i => if i < 0 then v else 0)).map (Value.int .i64)).toArray 3 (0, 0))) := Lib.hid (by
    rw [il_fill0, ← toList_madeCells_one]
    exact heap_alloc_new w _)
  obtain ⟨X, hX⟩ : ∃ X : Nat → List Value, ∀ k, X k = (il n (fun i => if i < k then v else 0)).map (Value.int .i64) := ⟨fun k => _, fun _ => rfl⟩
  rw [← hX] at HB0
  have HX := Lib.hid hX
  have HXL : Hid (∀ k, (X k).length = n) := Lib.hid (fun k => by rw [hX]; simp [il])
  have HXS : Hid (∀ k c, k + c ≤ n → splice (X k) k (List.replicate c (.int .i64 v)) = X (k + c)) := Lib.hid (fun k c h => by rw [hX, hX]; exact splice_fill n k c v h)
  clear hX
  go_enter Try.func61, Try.ntmps61
  go_wp2_with fail
  refine (mul_1 _ n h1 h6).mono ?_
  rintro e w1 ⟨rfl, rfl⟩
  go_wp2_with ((with_reducible show wpList _ _ _ (⟨some 33, _, _, _, _, _⟩ :: _) _ _); refine wpList_copy_splice (by rfl) (.tmp 31) (.tmp 32) 23 23 (by rfl) 3 Try.underlying23 info_int1 _ _ _ _ _ _ (by rfl) (by rfl) w.heap.size 0 (X 0) 3 HB0.out (List.replicate 1 (.int .i64 v)) (by simp [Nat.min_eq_left h1]) (fun _ => ⟨rfl, ⟨d, 0, none⟩, rfl, one_cell hdk⟩) (by rw [HXL.out]; simp; omega) (by simp; rfl) w.heap.size w (Keeps.alloc _ _) (Nat.le_refl _) ?_; intro w2 HG2 hB2; rw [HXS.out 0 1 (by omega)] at HG2; simp only [List.length_replicate, Nat.zero_add] at HG2 ⊢)
  go_loopw [8] (fun i wr => ∃ k : Nat, 1 ≤ k ∧ k ≤ n ∧ i = .int .i64 k ∧ Hid (wr.heap[w.heap.size]? = some (.cells (X k).toArray 3 (0, 0))) ∧ Keeps w wr) (fun i _ => n - (intOf i).toNat)
  case atStart => exact ⟨1, by omega, by omega, rfl, HG2, hB2⟩
  case round =>
    obtain ⟨k, hk1, hk, rfl, HG, hK⟩ := hrel
    by_cases hlt : k < n
    · have hki : (k : Int) < n := by omega
      obtain ⟨c, hc⟩ : ∃ c, c = Nat.min k (n - k) := ⟨_, rfl⟩
      have hc1 : 1 ≤ c := by rw [hc]; simp only [Nat.min_def]; split <;> omega
      have hc2 : k + c ≤ n := by rw [hc]; simp only [Nat.min_def]; split <;> omega
      have HC := Lib.hid hc
      have HSRC : Hid (∀ j u, (List.replicate c (Value.int .i64 v))[j]? = some u → wr.cell? ((⟨w.heap.size, 0, none⟩ : Addr).add j) = some u) := Lib.hid (fun j u hj => by
        have hjc : j < c := by
          have := (List.getElem?_eq_some_iff.1 hj).1
          simpa using this
        have hjk : j < k := by
          have : c ≤ k := by rw [HC.out]; exact Nat.min_le_left _ _
          omega
        rw [Addr.add_lit, Nat.zero_add, cell_of_row _ _ j _ _ _ HG.out, HX.out, ← hj]
        simp [il, hjc, hjk, show j < n by omega])
      clear hc hd hdk
      have hnk : ¬ n = k := by omega
      have HW : Hid (IntKind.i64.wrap ((k : Int) + (c : Int)) = ((k + c : Nat) : Int)) := Lib.hid (by rw [IntKind.wrap_i64]; omega)
      have HNX : Hid (goInt (List.replicate c (Value.int .i64 v)).length = .int .i64 c) := Lib.hid (by rw [List.length_replicate]; rfl)
      go_wp2_with fail
      go_region_law (refine step_copy_splice (by rfl) (.tmp 41) (.tmp 44) 23 23 (by rfl) 3 Try.underlying23 info_int1 (some ⟨w.heap.size, k, none⟩) (some ⟨w.heap.size, 0, none⟩) (n - k) (n - k) k n (by simp [Act.eval, Act.put]) (by simp [Act.eval, Act.put]) w.heap.size k (X k) 3 (HG.out) (List.replicate c (.int .i64 v)) (by rw [List.length_replicate]; exact HC.out) (fun _ => ⟨rfl, ⟨w.heap.size, 0, none⟩, rfl, HSRC.out⟩) (by rw [HXL.out]; simp; omega) (fun u hu => (List.eq_of_mem_replicate hu) ▸ rfl) w.heap.size w (hK.step (Keeps.drew1 _)) (Nat.le_refl _) ?_; intro w3 HG3 hB3)
      all_goals
        rw [HXS.out k c hc2] at HG3
        go_simp
        rw [HW.out]
        go_wp2
        go_roundw
        case rel => exact ⟨k + c, by omega, hc2, rfl, HG3, hB3⟩
        case measure => simp [intOf]; omega
    · obtain rfl : k = n := by omega
      have HO : Hid (OwnInts wr w.heap.size (some ⟨w.heap.size, 0, none⟩) k k (il k (fun _ => v))) := Lib.hid (own_of_blk (by
        have h := HG.out
        rw [HX.out, il_congr k _ (fun _ => v) (fun i hi => by rw [if_pos hi])] at h
        exact h) (Nat.le_refl _) (il_len _ _) (by omega))
      go_wp2
      go_ret
      exact ⟨_, rfl, HO.out, hK⟩
end Go.Proofs.Ytdjilgbcpdlkfaa
