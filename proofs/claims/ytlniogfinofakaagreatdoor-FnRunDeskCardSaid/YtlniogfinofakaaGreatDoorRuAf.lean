/-
  The contracts of functions of slices on []int: Index, Contains, Clip, Equal, Max, Repeat of one number. Conditions: bounds on lengths in each statement.
-/
import Derived.Test.YtlniogfinofakaaGreatDoorRuAb
import Derived.Test.YtlniogfinofakaaGreatDoorRuAe
import Derived.Laws.CopyOwn
import Derived.Deep.QuietTactic
import Derived.BigQuiet
namespace Go.Proofs.YtlniogfinofakaaGreatDoor
set_option maxRecDepth 100000
set_option maxRecDepth 100000
open Go.RowKit

set_option maxHeartbeats 400000 in
theorem slIndex_any (a : Option Addr) (n c : Nat) (x : Nat → Int) (v : Int) (w : World) (hn : n ≤ 9223372036854775807) (hE : Ints w a n x) :
    Calls Tryz.prog 83 #[.slice a n c, .int .i64 v] w fun e w' => e = .returned (.int .i64 (idxB (fun q => v == x q) n)) ∧ w = w' := by
  have HE := Lib.hid hE
  clear hE
  go_enter Tryz.func83, Tryz.ntmps83
  go_wp2
  go_loop [8] (fun i => ∃ k : Nat, k ≤ n ∧ i = .int .i64 k ∧ Hid (∀ j, j < k → (v == x j) = false)) (fun i => n - (intOf i).toNat)
  case atStart => exact ⟨0, by omega, rfl, Lib.hid (fun _ h => absurd h (Nat.not_lt_zero _))⟩
  case round =>
    obtain ⟨k, hk, rfl, hb⟩ := hrel
    by_cases hlt : k < n
    · have hlt' : (k : Int) < n := by omega
      obtain ⟨b, off, e, hc⟩ := HE.out k hlt
      subst e
      cases hpk : (v == x k)
      · have HP := Lib.hid hpk
        go_wp2
        go_round
        case rel =>
          refine ⟨k + 1, by omega, by go_num, Lib.hid (fun j hj => ?_)⟩
          by_cases hjk : j = k
          · rw [hjk]; exact HP.out
          · exact hb.out j (by omega)
        case measure => simp [intOf]; omega
      · have HP := Lib.hid hpk
        go_wp2
        go_ret
        exact ⟨ret_int (idxB_at (fun q => v == x q) n k hlt HP.out hb.out), rfl⟩
    · have : k = n := by omega
      subst this
      go_wp2
      go_ret
      exact ⟨ret_int (idxB_none (fun q => v == x q) k hb.out), rfl⟩
set_option maxHeartbeats 400000 in
theorem slContains_any (a : Option Addr) (n c : Nat) (x : Nat → Int) (v : Int) (w : World) (hn : n ≤ 9223372036854775807) (hE : Ints w a n x) :
    Calls Tryz.prog 114 #[.slice a n c, .int .i64 v] w fun e w' => e = .returned (.bool (anyB (fun q => v == x q) n)) ∧ w = w' := by
  have HG := Lib.hid (idxB_ge (fun q => v == x q) n)
  have HC := Lib.hid (slIndex_any a n c x v w hn hE)
  clear hE
  go_enter Tryz.func114, Tryz.ntmps114
  go_wp2_with fail
  refine HC.out.mono ?_
  rintro e w1 ⟨rfl, rfl⟩
  go_wp2
  go_ret
  exact ⟨ret_bool HG.out, rfl⟩
set_option maxHeartbeats 400000 in
theorem slClip_any (g n c : Nat) (w : World) (hn : n ≤ c) :
    Calls Tryz.prog 131 #[.slice (some ⟨g, 0, none⟩) n c] w fun e w' => e = .returned (.slice (some ⟨g, 0, none⟩) n n) ∧ w = w' := by
  go_enter Tryz.func131, Tryz.ntmps131
  go_wp2
  go_ret
  exact ⟨rfl, rfl⟩
theorem own_clip {w : World} {lo g n c : Nat} {l : List Int} (h : OwnInts w lo (some ⟨g, 0, none⟩) n c l) : n ≤ c ∧ c ≤ 9223372036854775807 := by
  rcases h.2 with ⟨e, h0⟩ | ⟨g', cap, cur, e, hg, r1, r2, r3, r4, r5⟩
  · cases e
  · cases e
    exact ⟨r2, by unfold maxLen at r3; omega⟩
set_option maxHeartbeats 400000 in
theorem slEqual_any (a b : Option Addr) (n c m d : Nat) (x y : Nat → Int) (w : World) (hn : n ≤ 9223372036854775807) (hm : m ≤ 9223372036854775807) (hx : Ints w a n x) (hy : Ints w b m y) :
    Calls Tryz.prog 135 #[.slice a n c, .slice b m d] w fun e w' => e = .returned (.bool (decide (n = m) && !anyB (fun i => x i != y i) n)) ∧ Keeps w w' := by
  have HX := Lib.hid hx
  have HY := Lib.hid hy
  clear hx hy
  by_cases hnm : n = m
  · subst hnm
    have hne : ((n : Int) != (n : Int)) = false := by simp
    have HV : Hid (∀ b, (!b) = (decide (n = n) && !b)) := Lib.hid (fun b => by simp)
    go_enter Tryz.func135, Tryz.ntmps135
    go_wp2
    go_loopw [13] (fun i wr => ∃ k : Nat, k ≤ n ∧ i = .int .i64 k ∧ Hid (anyB (fun i => x i != y i) k = false) ∧ Keeps w wr) (fun i _ => n - (intOf i).toNat)
    case atStart => exact ⟨0, by omega, rfl, Lib.hid rfl, Keeps.refl _⟩
    case round =>
      obtain ⟨k, hk, rfl, hb, hK⟩ := hrel
      by_cases hlt : k < n
      · have hlt' : (k : Int) < n := by omega
        obtain ⟨b1, o1, e1, hc1⟩ := HX.out.keeps hK k hlt
        obtain ⟨b2, o2, e2, hc2⟩ := HY.out.keeps hK k hlt
        subst e1
        subst e2
        have HS := Lib.hid (show anyB (fun i => x i != y i) (k + 1) = (anyB (fun i => x i != y i) k || (x k != y k)) from rfl)
        have HB2 : Hid ((x k != y k) = true → anyB (fun i => x i != y i) n = true) := Lib.hid (fun h => (anyB_iff _ _).2 ⟨k, hlt, h⟩)
        generalize x k = u at *
        generalize y k = v at *
        cases hpk : (u != v)
        · have HP := Lib.hid hpk
          go_wp2_with fail
          go_quiet (fail)
          go_wp2
          go_roundw
          case rel => exact ⟨k + 1, by omega, by go_num, Lib.hid (by rw [HS.out, hb.out, HP.out]; rfl), hK.step (Keeps.drewN _ _)⟩
          case measure => simp [intOf]; omega
        · have HP := Lib.hid hpk
          go_wp2_with fail
          go_quiet (fail)
          go_wp2
          go_ret
          exact ⟨ret_bool (by rw [HB2.out HP.out]; simp), hK.step (Keeps.drewN _ _)⟩
      · obtain rfl : k = n := by omega
        go_wp2
        go_ret
        exact ⟨ret_bool (by rw [hb.out]; simp), hK⟩
  · have hne : ((n : Int) != (m : Int)) = true := by simp; omega
    have HV : Hid (false = (decide (n = m) && !anyB (fun i => x i != y i) n)) := Lib.hid (by simp [hnm])
    clear hnm
    go_enter Tryz.func135, Tryz.ntmps135
    go_wp2
    go_ret
    exact ⟨ret_bool HV.out, Keeps.refl _⟩
/-- The greatest of the first k + 1 numbers. -/
def topF (x : Nat → Int) : Nat → Int
  | 0 => x 0
  | k + 1 => max (topF x k) (x (k + 1))
theorem topF_ge (x : Nat → Int) : ∀ k i, i ≤ k → x i ≤ topF x k
  | 0, i, h => by rw [show i = 0 by omega]; exact Int.le_refl _
  | k + 1, i, h => by
    unfold topF
    by_cases e : i = k + 1
    · rw [e]; omega
    · have := topF_ge x k i (by omega); omega
theorem topF_at (x : Nat → Int) : ∀ k, ∃ i, i ≤ k ∧ topF x k = x i
  | 0 => ⟨0, by omega, rfl⟩
  | k + 1 => by
    obtain ⟨i, hi, e⟩ := topF_at x k
    by_cases h : topF x k ≤ x (k + 1)
    · exact ⟨k + 1, by omega, by unfold topF; omega⟩
    · exact ⟨i, by omega, by unfold topF; omega⟩
set_option maxHeartbeats 1000000 in
theorem slMax_any (A : Option Addr) (m c : Nat) (x : Nat → Int) (w : World) (hm : m + 1 ≤ 1099511627776) (hI : Ints w A (m + 1) x) :
    Calls Tryz.prog 84 #[.slice A (m + 1) c] w fun e w' => e = .returned (.int .i64 (topF x m)) ∧ w = w' := by
  have HI := Lib.hid hI
  obtain ⟨d, off, rfl, hc0⟩ := hI 0 (by omega)
  clear hI
  obtain ⟨n, hn⟩ : ∃ n, n = m + 1 := ⟨_, rfl⟩
  rw [← hn] at hm HI ⊢
  have HN := Lib.hid hn
  have hn1 : (1 : Int) ≤ n := by omega
  have hn2 : (0 : Int) < n := by omega
  have hn3 : 0 < n := by omega
  have hn4 : ¬ ((n : Int) < 1) := by omega
  rw [Nat.add_zero] at hc0
  clear hn
  go_enter Tryz.func84, Tryz.ntmps84
  go_wp2_with fail
  go_loopw [4, 3] (fun i v wr => ∃ k : Nat, k < n ∧ i = .int .i64 ((k : Int) + 1) ∧ v = .int .i64 (topF x k) ∧ w = wr) (fun i _ _ => n + 1 - (intOf i).toNat)
  case atStart => exact ⟨0, by omega, by simp, rfl, rfl⟩
  case round =>
    obtain ⟨k, hk, rfl, rfl, rfl⟩ := hrel
    by_cases hlt : k + 1 < n
    · have hki : (k : Int) + 1 < n := by omega
      obtain ⟨_, _, e, hc⟩ := HI.out (k + 1) hlt
      cases e
      have HS := Lib.hid (show topF x (k + 1) = max (topF x k) (x (k + 1)) from rfl)
      generalize topF x k = v at *
      generalize x (k + 1) = z at *
      by_cases h : z ≤ v
      · have HV := Lib.hid (show topF x (k + 1) = v by rw [HS.out]; omega)
        have h' : ¬ v < z := by omega
        go_wp2
        go_roundw
        case rel => exact ⟨k + 1, by omega, by go_num, by rw [HV.out], trivial⟩
        case measure => simp [intOf]; omega
      · have HV := Lib.hid (show topF x (k + 1) = z by rw [HS.out]; omega)
        have h' : v < z := by omega
        go_wp2
        go_roundw
        case rel => exact ⟨k + 1, by omega, by go_num, by rw [HV.out], trivial⟩
        case measure => simp [intOf]; omega
    · have hki : ¬ ((k : Int) + 1 < n) := by omega
      have HV : Hid (topF x k = topF x m) := Lib.hid (by rw [show k = m by have := HN.out; omega])
      go_wp2
      go_ret
      exact ⟨ret_int HV.out, rfl⟩
theorem own_of_blk {w : World} {lo g n : Nat} {l : List Int} (hg : w.heap[g]? = some (.cells (l.map (Value.int .i64)).toArray 3 (0, 0))) (hlo : lo ≤ g) (hl : l.length = n) (hn : n ≤ 1099511627776) : OwnInts w lo (some ⟨g, 0, none⟩) n n l := by
  subst hl
  refine ⟨by simp, .inr ⟨g, l.length, _, rfl, hlo, hg, Nat.le_refl _, by unfold maxLen; omega, by simp, by simp [List.take_of_length_le]⟩⟩
theorem splice_fill (n k c : Nat) (v : Int) (h : k + c ≤ n) : splice ((il n (fun i => if i < k then v else 0)).map (Value.int .i64)) k (List.replicate c (.int .i64 v)) = (il n (fun i => if i < k + c then v else 0)).map (Value.int .i64) := by
  apply List.ext_getElem?
  intro i
  unfold splice
  by_cases h1 : i < k
  · rw [List.getElem?_append_left (by simp [il]; omega)]
    simp [il, h1, show i < n by omega, show i < k + c by omega]
  · rw [List.getElem?_append_right (by simp [il]; omega)]
    by_cases h2 : i < k + c
    · rw [List.getElem?_append_left (by simp [il]; omega)]
      simp [il, h2, show i < n by omega, show i - min k n < c by omega]
    · rw [List.getElem?_append_right (by simp [il]; omega)]
      by_cases h3 : i < n
      · simp [il, h1, h2, h3, show k + c + (i - min k n - c) = i by omega]
      · simp [il, h3, show ¬ (k + c + (i - min k n - c)) < n by omega]
theorem il_fill0 (n : Nat) (v : Int) : (il n (fun i => if i < 0 then v else 0)).map (Value.int .i64) = List.replicate n (.int .i64 0) := by
  rw [il_congr n _ (fun _ => 0) (fun i _ => by simp), ← il_zero]; simp
theorem one_cell {w : World} {d : Nat} {v : Value} (h : w.cell? ⟨d, 0, none⟩ = some v) : ∀ j u, (List.replicate 1 v)[j]? = some u → w.cell? ((⟨d, 0, none⟩ : Addr).add j) = some u := fun j u hj => by
  cases j with
  | zero => simp at hj; subst hj; rw [Addr.add_lit]; exact h
  | succ j => simp at hj
theorem info_int1 : (Tryz.prog.info? 3).map (·.size) = some 1 := by kernel_rfl
end Go.Proofs.YtlniogfinofakaaGreatDoor
/-
  The contracts of isIn of the laws and hasMark of the generator: whether a list has a number. Condition: a length below 2^63.
-/
namespace Go.Proofs.YtlniogfinofakaaGreatDoor
set_option maxRecDepth 100000
open Go.RowKit

theorem anyB_ext {p : Nat → Bool} {n j : Nat} (h : anyB p (j + 1) = true) (hj : j < n) : anyB p n = true := by
  rw [anyB_iff] at h ⊢
  obtain ⟨k, hk, e⟩ := h
  exact ⟨k, by omega, e⟩
set_option maxHeartbeats 1000000 in
theorem hasMark_any (a : Option Addr) (n c : Nat) (x : Nat → Int) (v : Int) (w : World) (hn : n ≤ 9223372036854775807) (hI : Ints w a n x) :
    Calls Tryz.prog 49 #[.slice a n c, .int .i64 v] w fun e w' => e = .returned (.bool (anyB (fun i => x i == v) n)) ∧ w = w' := by
  have HI := Lib.hid hI
  clear hI
  go_enter Tryz.func49, Tryz.ntmps49
  go_wp2_with fail
  go_loop [5] (fun i => ∃ k : Nat, k ≤ n ∧ i = .int .i64 k ∧ Hid (anyB (fun i => x i == v) k = false)) (fun i => n - (intOf i).toNat)
  case atStart => exact ⟨0, by omega, rfl, Lib.hid rfl⟩
  case round =>
    obtain ⟨k, hk, rfl, HA⟩ := hrel
    by_cases hlt : k < n
    · have hki : (k : Int) < n := by omega
      obtain ⟨d, off, rfl, hc⟩ := HI.out k hlt
      cases e : (x k == v)
      · have HB : Hid (anyB (fun i => x i == v) (k + 1) = false) := Lib.hid (by show (anyB (fun i => x i == v) k || (x k == v)) = false; rw [HA.out, e]; rfl)
        go_wp2
        go_round
        case rel => exact ⟨k + 1, by omega, by go_num, HB⟩
        case measure => simp [intOf]; omega
      · have HB : Hid (anyB (fun i => x i == v) n = true) := Lib.hid (anyB_ext (j := k) (by show (anyB (fun i => x i == v) k || (x k == v)) = true; rw [e]; simp) hlt)
        go_wp2
        go_ret
        exact ⟨ret_bool HB.out.symm, rfl⟩
    · obtain rfl : k = n := by omega
      go_wp2
      go_ret
      exact ⟨ret_bool HA.out.symm, rfl⟩
end Go.Proofs.YtlniogfinofakaaGreatDoor
/-
  The contracts of codes, tokens, states and moves. Condition: two to five states and machines.
-/
namespace Go.Proofs.YtlniogfinofakaaGreatDoor
set_option maxRecDepth 100000
set_option linter.unusedVariables false
open Go.RowKit

/-- States of a ring. -/
structure TokS (k n : Nat) (s : Nat → Nat) : Prop where
  k2 : 2 ≤ k
  k5 : k ≤ 5
  n2 : 2 ≤ n
  n5 : n ≤ 5
  lt : ∀ j, j < n → s j < k
theorem code_bd {k n : Nat} {s : Nat → Nat} (h : TokS k n s) (j : Nat) (hj : j ≤ n) : codeN k s j < 3125 :=
  Nat.lt_of_lt_of_le (code_lt j (fun i hi => h.lt i (by omega))) (pow5 h.k5 (by have := h.n5; omega))
abbrev nf (s : Nat → Nat) : Nat → Int := fun j => ((s j : Nat) : Int)
set_option maxHeartbeats 1000000 in
theorem hasToken_any (a : Option Addr) (n c i : Nat) (s : Nat → Nat) (w : World) (hn2 : 2 ≤ n) (hn5 : n ≤ 5) (hi : i < n) (hI : Ints w a n (nf s)) :
    Calls Tryz.prog 51 #[.slice a n c, .int .i64 i] w fun e w' => e = .returned (.bool (tokB n s i)) ∧ ∃ q, w' = w.drewN q := by
  obtain ⟨d, off, rfl, h0⟩ := hI 0 (by omega)
  obtain ⟨_, _, e, hi'⟩ := hI i hi
  cases e
  dsimp only [nf] at h0 hi'
  by_cases hi0 : i = 0
  · subst hi0
    obtain ⟨_, _, e, hl⟩ := hI (n - 1) (by omega)
    cases e
    dsimp only [nf] at hl
    have HV : Hid (tokB n s 0 = (((s 0 : Nat) : Int) == ((s (n - 1) : Nat) : Int))) := Lib.hid (by
      unfold tokB
      rw [if_pos rfl, Bool.eq_iff_iff]
      simp
      omega)
    clear hI hi'
    rw [Nat.add_zero] at h0
    generalize ((s 0 : Nat) : Int) = x at *
    generalize ((s (n - 1) : Nat) : Int) = y at *
    have hl1 : (n : Int) - 1 < n := by omega
    have hl0 : (0 : Int) ≤ (n : Int) - 1 := by omega
    have hwr : IntKind.i64.wrap ((n : Int) - 1) = (n : Int) - 1 := by rw [IntKind.wrap_i64]; omega
    have htn : ((n : Int) - 1).toNat = n - 1 := by omega
    have hn0 : (0 : Int) < n := by omega
    have hn0n : 0 < n := by omega
    go_enter Tryz.func51, Tryz.ntmps51
    go_wp2_with fail
    go_quiet (fail)
    go_wp2
    go_ret
    exact ⟨ret_bool HV.out.symm, _, rfl⟩
  · obtain ⟨i, rfl⟩ : ∃ i', i = i' + 1 := ⟨i - 1, by omega⟩
    obtain ⟨_, _, e, hl⟩ := hI i (by omega)
    cases e
    dsimp only [nf] at hl
    have HV : Hid (tokB n s (i + 1) = (((s (i + 1) : Nat) : Int) != ((s i : Nat) : Int))) := Lib.hid (by
      unfold tokB
      rw [if_neg (by omega), Nat.add_sub_cancel, Bool.eq_iff_iff]
      simp
      omega)
    clear hI h0
    generalize ((s (i + 1) : Nat) : Int) = x at *
    generalize ((s i : Nat) : Int) = y at *
    have hb : (((i + 1 : Nat) : Int) == 0) = false := by simp; omega
    have hwr : IntKind.i64.wrap (((i + 1 : Nat) : Int) - 1) = (i : Int) := by rw [IntKind.wrap_i64]; omega
    have hwr2 : IntKind.i64.wrap ((i : Int) + 1 - 1) = (i : Int) := by rw [IntKind.wrap_i64]; omega
    have hii : (i : Int) + 1 < n := by omega
    have hii0 : (i : Int) < n := by omega
    clear hi0
    go_enter Tryz.func51, Tryz.ntmps51
    go_wp2_with fail
    go_quiet (fail)
    go_wp2
    go_ret
    exact ⟨ret_bool HV.out.symm, _, rfl⟩
end Go.Proofs.YtlniogfinofakaaGreatDoor
/-
  The contracts of tokens of the program and of the reference: the machines that may move. Condition: two to five states and machines.
-/
namespace Go.Proofs.YtlniogfinofakaaGreatDoor
set_option maxRecDepth 100000
set_option linter.unusedVariables false
open Go.RowKit

/-- The machines below j that may move. -/
def tks (n : Nat) (s : Nat → Nat) (j : Nat) : List Nat := (List.range j).filter (fun i => tokB n s i)
def tkI (n : Nat) (s : Nat → Nat) (j : Nat) : List Int := (tks n s j).map (fun (i : Nat) => ((i : Nat) : Int))
theorem tks_next (n : Nat) (s : Nat → Nat) (j : Nat) : tks n s (j + 1) = tks n s j ++ (if tokB n s j then [j] else []) := by
  unfold tks
  rw [List.range_succ, List.filter_append]
  cases h : tokB n s j <;> simp [h]
theorem tks_len (n : Nat) (s : Nat → Nat) : ∀ j, (tks n s j).length = cntB (tokB n s) j
  | 0 => rfl
  | j + 1 => by
    rw [tks_next, List.length_append, tks_len n s j]
    show cntB (tokB n s) j + _ = cntB (tokB n s) j + (if tokB n s j then 1 else 0)
    cases h : tokB n s j <;> simp
theorem tkI_len (n : Nat) (s : Nat → Nat) (j : Nat) : (tkI n s j).length = cntB (tokB n s) j := by unfold tkI; rw [List.length_map, tks_len]
theorem tkI_next (n : Nat) (s : Nat → Nat) (j : Nat) : tkI n s (j + 1) = tkI n s j ++ (if tokB n s j then [(j : Int)] else []) := by
  unfold tkI
  rw [tks_next, List.map_append]
  cases h : tokB n s j <;> simp
theorem tks_mem (n : Nat) (s : Nat → Nat) (i : Nat) : i ∈ tks n s n ↔ i < n ∧ tokB n s i = true := by
  unfold tks
  rw [List.mem_filter, List.mem_range]
theorem tkI_at (n : Nat) (s : Nat → Nat) (i : Nat) (hi : i < (tks n s n).length) : (tkI n s n).getD i 0 = (((tks n s n).getD i 0 : Nat) : Int) := by
  unfold tkI
  simp [List.getD_eq_getElem?_getD, List.getElem?_map, List.getElem?_eq_getElem hi]
theorem tks_at (n : Nat) (s : Nat → Nat) (i : Nat) (hi : i < (tks n s n).length) : (tks n s n).getD i 0 < n ∧ tokB n s ((tks n s n).getD i 0) = true := by
  refine (tks_mem n s _).1 ?_
  rw [List.getD_eq_getElem?_getD, List.getElem?_eq_getElem hi]
  exact List.getElem_mem hi
def TokAns (n : Nat) (s : Nat → Nat) (w : World) (e : Ending) (w' : World) : Prop :=
  ∃ g c : Nat, e = .returned (.slice (some ⟨g, 0, none⟩) (tks n s n).length c) ∧ Ints w' (some ⟨g, 0, none⟩) (tks n s n).length (fun i => (((tks n s n).getD i 0 : Nat) : Int)) ∧ (tks n s n).length ≤ c ∧ c ≤ 9223372036854775807 ∧ w.heap.size ≤ g ∧ Keeps w w'
theorem tok_ints {n : Nat} {s : Nat → Nat} {w : World} {lo g c m : Nat} (h : OwnInts w lo (some ⟨g, 0, none⟩) m c (tkI n s n)) : Ints w (some ⟨g, 0, none⟩) (tks n s n).length (fun i => (((tks n s n).getD i 0 : Nat) : Int)) := fun i hi => by
  have hl := h.len
  rw [tkI_len, ← tks_len] at hl
  refine ⟨g, 0, rfl, ?_⟩
  rw [Nat.zero_add, h.cell i (by omega), tkI_at n s i hi]
theorem tks_bd {n : Nat} {s : Nat → Nat} (j : Nat) : (tks n s j).length ≤ j := by rw [tks_len]; exact cntB_le _ _
set_option maxHeartbeats 2000000 in
theorem stokens_any (a : Option Addr) (n c : Nat) (s : Nat → Nat) (w : World) (hn2 : 2 ≤ n) (hn5 : n ≤ 5) (hI : Ints w a n (nf s)) :
    Calls Tryz.prog 33 #[.slice a n c] w (TokAns n s w) := by
  have HI := Lib.hid hI
  clear hI
  have HO0 : Hid (OwnInts (w.alloc (.cells #[] 3)) w.heap.size (some ⟨w.heap.size, 0, none⟩) 0 0 (tkI n s 0)) := Lib.hid (OwnInts.made w w.heap.size (Nat.le_refl _))
  go_enter Tryz.func33, Tryz.ntmps33
  go_wp2_with fail
  go_loopw [3, 4] (fun o i wr => ∃ j g m c : Nat, j ≤ n ∧ i = .int .i64 j ∧ m ≤ j ∧ o = .slice (some ⟨g, 0, none⟩) m c ∧ Hid (OwnInts wr w.heap.size (some ⟨g, 0, none⟩) m c (tkI n s j)) ∧ Keeps w wr) (fun _ i _ => n - (intOf i).toNat)
  case atStart => exact ⟨0, w.heap.size, 0, 0, by omega, rfl, by omega, rfl, HO0, Keeps.alloc _ _⟩
  case round =>
    clear HO0
    obtain ⟨j, g, m, co, hj, rfl, hm, rfl, HO, hK⟩ := hrel
    have hcap := own_clip HO.out
    have hcap1 := hcap.1
    have hcap2 := hcap.2
    by_cases hlt : j < n
    · have hji : (j : Int) < n := by omega
      have CT := Lib.hid (hasToken_any a n c j s wr hn2 hn5 hlt (HI.out.keeps hK))
      have HN := Lib.hid (tkI_next n s j)
      cases ht : tokB n s j
      · rw [ht] at CT HN
        clear ht
        go_wp2_with (first | (go_at_call 51; refine CT.out.mono ?_; rintro e w' ⟨rfl, q, rfl⟩))
        go_roundw
        case rel => exact ⟨j + 1, g, m, co, by omega, by go_num, by omega, rfl, Lib.hid (by rw [HN.out]; simpa using HO.out.keeps (Keeps.drewN _ _)), hK.step (Keeps.drewN _ _)⟩
        case measure => simp [intOf]; omega
      · rw [ht] at CT HN
        clear ht
        have HZ := Lib.hid hK.size
        go_wp2_with (first | (go_at_call 51; refine CT.out.mono ?_; rintro e w' ⟨rfl, q, rfl⟩; have HOq := Lib.hid (HO.out.keeps (Keeps.drewN wr q)); have hKq := hK.step (Keeps.drewN wr q); generalize wr.drewN q = wq at *) | (at_builtin; refine wp_app_int rfl _ _ rfl w.heap.size (some ⟨g, 0, none⟩) m co (tkI n s j) _ rfl HOq.out _ rfl (by omega) hKq.size ?_; intro g6 c6 w6 hO6 hg6))
        have HO6 : Hid (OwnInts w6 w.heap.size (some ⟨g6, 0, none⟩) (m + 1) c6 (tkI n s (j + 1))) := Lib.hid (by rw [HN.out]; exact hO6)
        have hK6 : Keeps w w6 := hKq.grown HOq.out (Nat.le_refl _) hg6
        clear hO6 hg6
        go_roundw
        case rel => exact ⟨j + 1, g6, m + 1, c6, by omega, by go_num, by omega, rfl, HO6, hK6⟩
        case measure => simp [intOf]; omega
    · obtain rfl : j = n := by omega
      have hl := HO.out.len
      rw [tkI_len, ← tks_len] at hl
      go_wp2
      go_ret
      exact ⟨g, co, by rw [hl]; rfl, tok_ints HO.out, by omega, hcap2, HO.out.block.1, hK⟩
theorem make_cap (n : Nat) (hn : n ≤ 1099511627776) (w : World) : (Instr.makeSlice 45 (.int .i64 0) (.int .i64 n)).run Tryz.prog w = .ok (.slice (some ⟨w.heap.size, 0, none⟩) 0 n) (w.alloc (.cells (madeCells #[.int .i64 0] n) 3)) := by
  obtain ⟨i0, hi, hz0, hz1, hz2⟩ := info_parts info_int
  have := run_make (P := Tryz.prog) (w := w) 45 3 i0 _ Tryz.underlying45 hi hz0 .i64 .i64 0 n (by omega) (by omega) (by rw [hz2]; omega) (by omega)
  rw [this, hz1]
  simp
  rfl
theorem own_make_cap (w : World) (lo n : Nat) (hlo : lo ≤ w.heap.size) (hn : n ≤ 1099511627776) : OwnInts (w.alloc (.cells (madeCells #[.int .i64 0] n) 3)) lo (some ⟨w.heap.size, 0, none⟩) 0 n [] :=
  World.ownsRow_made w _ n hlo (by unfold maxLen; omega) (by simp [size_madeCells])
theorem tok_test {n : Nat} {s : Nat → Nat} {j : Nat} (hn : 2 ≤ n) (hj : j < n) : tokB n s j = ((decide (j = 0)) == (((s j : Nat) : Int) == ((s ((j + n - 1) % n) : Nat) : Int))) := by
  unfold tokB
  by_cases e : j = 0
  · subst e
    rw [if_pos rfl, show (0 + n - 1) % n = n - 1 from by rw [Nat.mod_eq_of_lt (by omega)]; omega, Bool.eq_iff_iff]
    simp
    omega
  · rw [if_neg e, show (j + n - 1) % n = j - 1 from by rw [show j + n - 1 = (j - 1) + n by omega, Nat.add_mod_right, Nat.mod_eq_of_lt (by omega)]]
    have ed : decide (j = 0) = false := by simp [e]
    rw [ed]
    rw [Bool.eq_iff_iff]
    simp
    omega
set_option maxHeartbeats 2000000 in
theorem itokens_any (a : Option Addr) (n c : Nat) (s : Nat → Nat) (w : World) (hn2 : 2 ≤ n) (hn5 : n ≤ 5) (hI : Ints w a n (nf s)) :
    Calls Tryz.prog 86 #[.slice a n c] w (TokAns n s w) := by
  have HI := Lib.hid hI
  clear hI
  have hmk := make_cap n (by omega)
  have HO0 : Hid (OwnInts (w.alloc (.cells (madeCells #[.int .i64 0] n) 3)) w.heap.size (some ⟨w.heap.size, 0, none⟩) 0 n (tkI n s 0)) := Lib.hid (own_make_cap w w.heap.size n (Nat.le_refl _) (by omega))
  go_enter Tryz.func86, Tryz.ntmps86
  go_wp2_with fail
  go_loopw [3, 12] (fun o i wr => ∃ j g m c : Nat, j ≤ n ∧ i = .int .i64 j ∧ m ≤ j ∧ o = .slice (some ⟨g, 0, none⟩) m c ∧ Hid (OwnInts wr w.heap.size (some ⟨g, 0, none⟩) m c (tkI n s j)) ∧ Keeps w wr) (fun _ i _ => n - (intOf i).toNat)
  case atStart => exact ⟨0, w.heap.size, 0, n, by omega, rfl, by omega, rfl, HO0, Keeps.alloc _ _⟩
  case round =>
    clear HO0
    obtain ⟨j, g, m, co, hj, rfl, hm, rfl, HO, hK⟩ := hrel
    have hcap := own_clip HO.out
    have hcap1 := hcap.1
    have hcap2 := hcap.2
    by_cases hlt : j < n
    · have hji : (j : Int) < n := by omega
      have hml : (j + n - 1) % n < n := Nat.mod_lt _ (by omega)
      obtain ⟨d, off, rfl, hcj0⟩ := HI.out j hlt
      obtain ⟨_, _, e, hcl0⟩ := HI.out ((j + n - 1) % n) hml
      cases e
      have hcj := cell_keeps hK hcj0
      have hcl := cell_keeps hK hcl0
      dsimp only [nf] at hcj hcl
      have hn0 : ((n : Int) == 0) = false := by simp; omega
      have hw2 : IntKind.i64.wrap ((j : Int) + n - 1) = (j : Int) + n - 1 := by rw [IntKind.wrap_i64]; omega
      obtain ⟨q, hq⟩ : ∃ q, q = (j + n - 1) % n := ⟨_, rfl⟩
      have ht0 : ((j : Int) + n - 1) % n = (q : Int) := by
        rw [hq, Int.natCast_emod]
        congr 1
        omega
      have ht1 : Int.tmod ((j : Int) + n - 1) n = (q : Int) := by
        rw [Int.tmod_eq_emod_of_nonneg (by omega)]; exact ht0
      have HT := Lib.hid (tok_test (s := s) hn2 hlt)
      rw [← hq] at hml hcl HT
      have hqi : (q : Int) < n := by omega
      have hq0 : (0 : Int) ≤ (q : Int) := by omega
      have hqn : ((q : Int)).toNat = q := by omega
      have HN := Lib.hid (tkI_next n s j)
      obtain ⟨y, hy⟩ : ∃ y, y = ((s j : Nat) : Int) := ⟨_, rfl⟩
      obtain ⟨z, hz⟩ : ∃ z, z = ((s q : Nat) : Int) := ⟨_, rfl⟩
      rw [← hy] at hcj HT
      rw [← hz] at hcl HT
      clear hq hy hz hcj0 hcl0
      cases ht : tokB n s j
      · rw [ht] at HT HN
        clear ht
        by_cases hj0 : j = 0
        · have hyz : (y == z) = false := by have := HT.out; rw [show decide (j = 0) = true by simp [hj0]] at this; simpa using this.symm
          have hjb : ((j : Int) == 0) = true := by simp [hj0]
          clear hj0 HT
          go_wp2
          go_roundw
          case rel => exact ⟨j + 1, g, m, co, by omega, by go_num, by omega, rfl, Lib.hid (by rw [HN.out]; simpa using HO.out), hK⟩
          case measure => simp [intOf]; omega
        · have hyz : (y == z) = true := by have := HT.out; rw [show decide (j = 0) = false by simp [hj0]] at this; simpa using this.symm
          have hjb : ((j : Int) == 0) = false := by simp; omega
          clear hj0 HT
          go_wp2
          go_roundw
          case rel => exact ⟨j + 1, g, m, co, by omega, by go_num, by omega, rfl, Lib.hid (by rw [HN.out]; simpa using HO.out), hK⟩
          case measure => simp [intOf]; omega
      · rw [ht] at HT HN
        clear ht
        by_cases hj0 : j = 0
        · have hyz : (y == z) = true := by have := HT.out; rw [show decide (j = 0) = true by simp [hj0]] at this; simpa using this.symm
          have hjb : ((j : Int) == 0) = true := by simp [hj0]
          clear hj0 HT
          have HKZ := Lib.hid hK.size
          go_wp2_with (first | (at_builtin; refine wp_app_int rfl _ _ rfl w.heap.size (some ⟨g, 0, none⟩) m co (tkI n s j) _ rfl HO.out _ rfl (by omega) HKZ.out ?_; intro g6 c6 w6 hO6 hg6))
          have HO6 : Hid (OwnInts w6 w.heap.size (some ⟨g6, 0, none⟩) (m + 1) c6 (tkI n s (j + 1))) := Lib.hid (by rw [HN.out]; exact hO6)
          have hK6 : Keeps w w6 := hK.grown HO.out (Nat.le_refl _) hg6
          clear hO6 hg6
          go_roundw
          case rel => exact ⟨j + 1, g6, m + 1, c6, by omega, by go_num, by omega, rfl, HO6, hK6⟩
          case measure => simp [intOf]; omega
        · have hyz : (y == z) = false := by have := HT.out; rw [show decide (j = 0) = false by simp [hj0]] at this; simpa using this.symm
          have hjb : ((j : Int) == 0) = false := by simp; omega
          clear hj0 HT
          have HKZ := Lib.hid hK.size
          go_wp2_with (first | (at_builtin; refine wp_app_int rfl _ _ rfl w.heap.size (some ⟨g, 0, none⟩) m co (tkI n s j) _ rfl HO.out _ rfl (by omega) HKZ.out ?_; intro g6 c6 w6 hO6 hg6))
          have HO6 : Hid (OwnInts w6 w.heap.size (some ⟨g6, 0, none⟩) (m + 1) c6 (tkI n s (j + 1))) := Lib.hid (by rw [HN.out]; exact hO6)
          have hK6 : Keeps w w6 := hK.grown HO.out (Nat.le_refl _) hg6
          clear hO6 hg6
          go_roundw
          case rel => exact ⟨j + 1, g6, m + 1, c6, by omega, by go_num, by omega, rfl, HO6, hK6⟩
          case measure => simp [intOf]; omega
    · obtain rfl : j = n := by omega
      have hl := HO.out.len
      rw [tkI_len, ← tks_len] at hl
      go_wp2
      go_ret
      exact ⟨g, m, by rw [hl]; rfl, tok_ints HO.out, by omega, by omega, HO.out.block.1, hK⟩
end Go.Proofs.YtlniogfinofakaaGreatDoor
/-
  ValidTokens of both, with what TokC says of the tokens. Conditions: lengths below 2^63.
-/
namespace Go.Proofs.YtlniogfinofakaaGreatDoor
set_option maxRecDepth 100000
set_option linter.unusedVariables false
open Go.RowKit
def tokOkB (k : Int) (n : Nat) (x : Nat → Int) : Bool := (inB k 2 5 && inB n 2 5) && !anyB (fun j => !inB (x j) 0 (k - 1)) n
theorem tokOk_true {k : Int} {n : Nat} {x : Nat → Int} (h : tokOkB k n x = true) : ∃ kk : Nat, k = kk ∧ TokS kk n (fun j => (x j).toNat) ∧ ∀ j, j < n → x j = nf (fun j => (x j).toNat) j := by
  unfold tokOkB at h
  simp only [Bool.and_eq_true, Bool.not_eq_true'] at h
  obtain ⟨⟨h1, h2⟩, h3⟩ := h
  have h1 := inB_true h1
  have h2 := inB_true h2
  rw [anyB_false] at h3
  have hx : ∀ j, j < n → 0 ≤ x j ∧ x j ≤ k - 1 := fun j hj => by
    have := h3 j hj
    exact inB_true (by simpa using this)
  obtain ⟨kk, rfl⟩ := Int.eq_ofNat_of_zero_le (show 0 ≤ k by omega)
  exact ⟨kk, rfl, ⟨by omega, by omega, by omega, by omega, fun j hj => by have := hx j hj; omega⟩, fun j hj => by have := hx j hj; dsimp only [nf]; omega⟩
theorem anyB_hit {p : Nat → Bool} {n j : Nat} (h : p j = true) (hj : j < n) : anyB p n = true := (anyB_iff _ _).2 ⟨j, hj, h⟩
set_option maxHeartbeats 1000000 in
theorem svalidTokens_any (k : Int) (a : Option Addr) (n c : Nat) (x : Nat → Int) (w : World) (hn : n ≤ 9223372036854775807) (hI : Ints w a n x) :
    Calls Tryz.prog 32 #[.int .i64 k, .slice a n c] w fun e w' => e = .returned (.bool (tokOkB k n x)) ∧ w = w' := by
  have HI := Lib.hid hI
  clear hI
  obtain ⟨km, hkm⟩ : ∃ km, km = IntKind.i64.wrap (k - 1) := ⟨_, rfl⟩
  have hkm' : wrap64 (k - 1) = km := by rw [hkm, IntKind.wrap_i64]; unfold wrap64; omega
  have HKM : Hid (inB k 2 5 = true → km = k - 1) := Lib.hid (fun h => by have := inB_true h; rw [hkm, IntKind.wrap_i64]; omega)
  have hkm2 := hkm.symm
  clear hkm
  go_enter Tryz.func32, Tryz.ntmps32
  go_wp2_with fail
  go_loop [5] (fun i => ∃ j : Nat, j ≤ n ∧ i = .int .i64 j ∧ Hid (anyB (fun j => !inB (x j) 0 km) j = false)) (fun i => n - (intOf i).toNat)
  case atStart => exact ⟨0, by omega, rfl, Lib.hid rfl⟩
  case round =>
    obtain ⟨j, hj, rfl, HA⟩ := hrel
    by_cases hlt : j < n
    · have hji : (j : Int) < n := by omega
      obtain ⟨d, off, rfl, hc⟩ := HI.out j hlt
      have HB : Hid (inB (x j) 0 km = false → tokOkB k n x = false) := Lib.hid (fun h => by
        unfold tokOkB
        cases hk : inB k 2 5
        · simp
        · rw [anyB_hit (j := j) (by rw [← HKM.out hk, h]; rfl) hlt]
          simp)
      have HN : Hid (inB (x j) 0 km = true → anyB (fun j => !inB (x j) 0 km) (j + 1) = false) := Lib.hid (fun h => by
        show (anyB (fun j => !inB (x j) 0 km) j || !inB (x j) 0 km) = false
        rw [HA.out, h]; rfl)
      generalize x j = z at *
      have CR := Lib.hid (fun w => inRange_any z 0 km w)
      cases hz : inB z 0 km
      · have HB2 := Lib.hid (HB.out hz)
        rw [hz] at CR
        clear hz
        go_wp2_with fail
        refine (CR.out _).mono ?_
        rintro e w1 ⟨rfl, rfl⟩
        go_wp2
        go_ret
        exact ⟨ret_bool HB2.out.symm, rfl⟩
      · have HN2 := Lib.hid (HN.out hz)
        rw [hz] at CR
        clear hz
        go_wp2_with fail
        refine (CR.out _).mono ?_
        rintro e w1 ⟨rfl, rfl⟩
        go_wp2
        go_round
        case rel => exact ⟨j + 1, by omega, by go_num, HN2⟩
        case measure => simp [intOf]; omega
    · obtain rfl : n = j := by omega
      have HT : Hid (tokOkB k n x = (inB k 2 5 && inB n 2 5)) := Lib.hid (by
        unfold tokOkB
        cases hk : inB k 2 5
        · simp
        · rw [← HKM.out hk, HA.out]; simp)
      have CK := Lib.hid (fun w => inRange_any k 2 5 w)
      have CN := Lib.hid (fun w => inRange_any n 2 5 w)
      cases hk : inB k 2 5
      · rw [hk] at CK HT
        clear hk
        go_wp2_with fail
        refine (CK.out _).mono ?_
        rintro e w1 ⟨rfl, rfl⟩
        go_wp2
        go_ret
        exact ⟨ret_bool (by rw [HT.out]; rfl), rfl⟩
      · rw [hk] at CK HT
        clear hk
        go_wp2_with fail
        refine (CK.out _).mono ?_
        rintro e w1 ⟨rfl, rfl⟩
        go_wp2_with fail
        refine (CN.out _).mono ?_
        rintro e w1 ⟨rfl, rfl⟩
        go_wp2
        go_ret
        exact ⟨ret_bool (by rw [HT.out, Bool.true_and]), rfl⟩
theorem vt1_any (b : Nat) (x k km : Int) (w : World) (hkm : wrap64 (k - 1) = km) (hc : w.cell? ⟨b, 0, none⟩ = some (.int .i64 k)) :
    Calls Tryz.prog 89 #[.int .i64 x, .pointer (some ⟨b, 0, none⟩)] w fun e w' => e = .returned (.bool (!inB x 0 km)) ∧ Keeps w w' := by
  have HKM := Lib.hid hkm
  go_enter Tryz.func89, Tryz.ntmps89
  go_wp2_with fail
  refine (within_any _ _ _ _).mono ?_
  rintro e w1 ⟨rfl, rfl⟩
  go_wp2_with fail
  go_ret
  exact ⟨rfl, Keeps.refl _⟩
theorem validTokens_any (k : Int) (a : Option Addr) (n c : Nat) (x : Nat → Int) (w : World) (hn : n ≤ 9223372036854775807) (hI : Ints w a n x) :
    Calls Tryz.prog 64 #[.int .i64 k, .slice a n c] w fun e w' => e = .returned (.bool (tokOkB k n x)) ∧ Keeps w w' := by
  have hmf : ∀ (fn : Fn) (first cap : Array Value) (w : World), (Instr.makeFunc fn first cap).run Tryz.prog w = .ok (.func fn first cap) w := fun _ _ _ _ => rfl
  have HK : Hid (Keeps w (w.alloc (.cells #[.int .i64 k] 3))) := Lib.hid (Keeps.alloc w _)
  have HI := Lib.hid (hI.keeps HK.out)
  clear hI
  cases h1 : inB k 2 5
  · have HV : Hid (false = tokOkB k n x) := Lib.hid (by unfold tokOkB; rw [h1]; simp)
    have H1 := Lib.hid h1
    clear h1
    go_enter Tryz.func64, Tryz.ntmps64
    go_wp2_with fail
    refine (within_any _ _ _ _).mono ?_
    rintro e w1 ⟨rfl, rfl⟩
    rw [H1.out]
    go_wp2_with fail
    go_ret
    exact ⟨ret_bool HV.out, HK.out⟩
  · cases h2 : inB n 2 5
    · have HV : Hid (false = tokOkB k n x) := Lib.hid (by unfold tokOkB; rw [h1, h2]; simp)
      have H1 := Lib.hid h1
      have H2 := Lib.hid h2
      clear h1 h2
      go_enter Tryz.func64, Tryz.ntmps64
      go_wp2_with fail
      refine (within_any _ _ _ _).mono ?_
      rintro e w1 ⟨rfl, rfl⟩
      rw [H1.out]
      go_wp2_with fail
      refine (within_any _ _ _ _).mono ?_
      rintro e w1 ⟨rfl, rfl⟩
      rw [H2.out]
      go_wp2_with fail
      go_ret
      exact ⟨ret_bool HV.out, HK.out⟩
    · have HV : Hid ((!anyB (fun j => !inB (x j) 0 (k - 1)) n) = tokOkB k n x) := Lib.hid (by unfold tokOkB; rw [h1, h2]; simp)
      have HKM : Hid (wrap64 (k - 1) = k - 1) := Lib.hid (by have := inB_true h1; unfold wrap64; omega)
      have HN5 : Hid (n ≤ 5) := Lib.hid (by have := inB_true h2; omega)
      have H1 := Lib.hid h1
      have H2 := Lib.hid h2
      clear h1 h2
      go_enter Tryz.func64, Tryz.ntmps64
      go_wp2_with fail
      refine (within_any _ _ _ _).mono ?_
      rintro e w1 ⟨rfl, rfl⟩
      rw [H1.out]
      go_wp2_with fail
      refine (within_any _ _ _ _).mono ?_
      rintro e w1 ⟨rfl, rfl⟩
      rw [H2.out]
      go_wp2_with fail
      refine (intcontains_any 89 #[.pointer (some ⟨w.heap.size, 0, none⟩)] a n c x (fun j => !inB (x j) 0 (k - 1)) _ (by have := HN5.out; omega) HI.out (fun _ _ => rfl) (fun j w' _ hk => vt1_any w.heap.size (x j) k (k - 1) w' HKM.out (cell_keeps hk (by simp)))).mono ?_
      rintro e w1 ⟨rfl, hk1⟩
      have HK1 := Lib.hid (HK.out.step hk1)
      clear hk1
      go_wp2_with fail
      go_ret
      exact ⟨ret_bool HV.out, HK1.out⟩
end Go.Proofs.YtlniogfinofakaaGreatDoor
