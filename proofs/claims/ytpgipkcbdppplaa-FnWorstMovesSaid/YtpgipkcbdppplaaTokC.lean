/-
  The contracts of tokens of the program and of the reference: the machines that may move. Condition: two to five states and machines.
-/
import Derived.Test.YtpgipkcbdppplaaTokB
namespace Go.Proofs.Ytpgipkcbdppplaa
set_option linter.unusedVariables false
open Go.RowKit

/-- The machines below j that may move. -/
def tks (n : Nat) (s : Nat → Nat) (j : Nat) : List Nat := (List.range j).filter (fun i => tokB n s i)
def tkI (n : Nat) (s : Nat → Nat) (j : Nat) : List Int := (tks n s j).map (fun (i : Nat) => ((i : Nat) : Int))
theorem tks_next (n : Nat) (s : Nat → Nat) (j : Nat) : tks n s (j + 1) = tks n s j ++ (if tokB n s j then [j] else []) := by
  unfold tks
  rw [List.range_succ, List.filter_append]
  cases h : tokB n s j <;> simp [h]
theorem tks_len (n : Nat) (s : Nat → Nat) : ∀ j, (tks n s j).length = cntB (tokB n s) j
  | 0 => rfl
  | j + 1 => by
    rw [tks_next, List.length_append, tks_len n s j]
    show cntB (tokB n s) j + _ = cntB (tokB n s) j + (if tokB n s j then 1 else 0)
    cases h : tokB n s j <;> simp
theorem tkI_len (n : Nat) (s : Nat → Nat) (j : Nat) : (tkI n s j).length = cntB (tokB n s) j := by unfold tkI; rw [List.length_map, tks_len]
theorem tkI_next (n : Nat) (s : Nat → Nat) (j : Nat) : tkI n s (j + 1) = tkI n s j ++ (if tokB n s j then [(j : Int)] else []) := by
  unfold tkI
  rw [tks_next, List.map_append]
  cases h : tokB n s j <;> simp
theorem tks_mem (n : Nat) (s : Nat → Nat) (i : Nat) : i ∈ tks n s n ↔ i < n ∧ tokB n s i = true := by
  unfold tks
  rw [List.mem_filter, List.mem_range]
theorem tkI_at (n : Nat) (s : Nat → Nat) (i : Nat) (hi : i < (tks n s n).length) : (tkI n s n).getD i 0 = (((tks n s n).getD i 0 : Nat) : Int) := by
  unfold tkI
  simp [List.getD_eq_getElem?_getD, List.getElem?_map, List.getElem?_eq_getElem hi]
theorem tks_at (n : Nat) (s : Nat → Nat) (i : Nat) (hi : i < (tks n s n).length) : (tks n s n).getD i 0 < n ∧ tokB n s ((tks n s n).getD i 0) = true := by
  refine (tks_mem n s _).1 ?_
  rw [List.getD_eq_getElem?_getD, List.getElem?_eq_getElem hi]
  exact List.getElem_mem hi
def TokAns (n : Nat) (s : Nat → Nat) (w : World) (e : Ending) (w' : World) : Prop :=
  ∃ g c : Nat, e = .returned (.slice (some ⟨g, 0, none⟩) (tks n s n).length c) ∧ Ints w' (some ⟨g, 0, none⟩) (tks n s n).length (fun i => (((tks n s n).getD i 0 : Nat) : Int)) ∧ (tks n s n).length ≤ c ∧ c ≤ 9223372036854775807 ∧ w.heap.size ≤ g ∧ Keeps w w'
theorem tok_ints {n : Nat} {s : Nat → Nat} {w : World} {lo g c m : Nat} (h : OwnInts w lo (some ⟨g, 0, none⟩) m c (tkI n s n)) : Ints w (some ⟨g, 0, none⟩) (tks n s n).length (fun i => (((tks n s n).getD i 0 : Nat) : Int)) := fun i hi => by
  have hl := h.len
  rw [tkI_len, ← tks_len] at hl
  refine ⟨g, 0, rfl, ?_⟩
  rw [Nat.zero_add, h.cell i (by omega), tkI_at n s i hi]
theorem tks_bd {n : Nat} {s : Nat → Nat} (j : Nat) : (tks n s j).length ≤ j := by rw [tks_len]; exact cntB_le _ _
set_option maxHeartbeats 2000000 in
theorem stokens_any (a : Option Addr) (n c : Nat) (s : Nat → Nat) (w : World) (hn2 : 2 ≤ n) (hn5 : n ≤ 5) (hI : Ints w a n (nf s)) :
    Calls Try.prog 37 #[.slice a n c] w (TokAns n s w) := by
  have HI := Lib.hid hI
  clear hI
  have HO0 : Hid (OwnInts (w.alloc (.cells #[] 3)) w.heap.size (some ⟨w.heap.size, 0, none⟩) 0 0 (tkI n s 0)) := Lib.hid (OwnInts.made w w.heap.size (Nat.le_refl _))
  go_enter Try.func37, Try.ntmps37
  go_wp2_with fail
  go_loopw [3, 4] (fun o i wr => ∃ j g m c : Nat, j ≤ n ∧ i = .int .i64 j ∧ m ≤ j ∧ o = .slice (some ⟨g, 0, none⟩) m c ∧ Hid (OwnInts wr w.heap.size (some ⟨g, 0, none⟩) m c (tkI n s j)) ∧ Keeps w wr) (fun _ i _ => n - (intOf i).toNat)
  case atStart => exact ⟨0, w.heap.size, 0, 0, by omega, rfl, by omega, rfl, HO0, Keeps.alloc _ _⟩
  case round =>
    clear HO0
    obtain ⟨j, g, m, co, hj, rfl, hm, rfl, HO, hK⟩ := hrel
    have hcap := own_clip HO.out
    have hcap1 := hcap.1
    have hcap2 := hcap.2
    by_cases hlt : j < n
    · have hji : (j : Int) < n := by omega
      have CT := Lib.hid (hasToken_any a n c j s wr hn2 hn5 hlt (HI.out.keeps hK))
      have HN := Lib.hid (tkI_next n s j)
      cases ht : tokB n s j
      · rw [ht] at CT HN
        clear ht
        go_wp2_with (first | (go_at_call 49; refine CT.out.mono ?_; rintro e w' ⟨rfl, q, rfl⟩))
        go_roundw
        case rel => exact ⟨j + 1, g, m, co, by omega, by go_num, by omega, rfl, Lib.hid (by rw [HN.out]; simpa using HO.out.keeps (Keeps.drewN _ _)), hK.step (Keeps.drewN _ _)⟩
        case measure => simp [intOf]; omega
      · rw [ht] at CT HN
        clear ht
        have HZ := Lib.hid hK.size
        go_wp2_with (first | (go_at_call 49; refine CT.out.mono ?_; rintro e w' ⟨rfl, q, rfl⟩; have HOq := Lib.hid (HO.out.keeps (Keeps.drewN wr q)); have hKq := hK.step (Keeps.drewN wr q); generalize wr.drewN q = wq at *) | (at_builtin; refine wp_app_int rfl _ _ rfl w.heap.size (some ⟨g, 0, none⟩) m co (tkI n s j) _ rfl HOq.out _ rfl (by omega) hKq.size ?_; intro g6 c6 w6 hO6 hg6))
        have HO6 : Hid (OwnInts w6 w.heap.size (some ⟨g6, 0, none⟩) (m + 1) c6 (tkI n s (j + 1))) := Lib.hid (by rw [HN.out]; exact hO6)
        have hK6 : Keeps w w6 := hKq.grown HOq.out (Nat.le_refl _) hg6
        clear hO6 hg6
        go_roundw
        case rel => exact ⟨j + 1, g6, m + 1, c6, by omega, by go_num, by omega, rfl, HO6, hK6⟩
        case measure => simp [intOf]; omega
    · obtain rfl : j = n := by omega
      have hl := HO.out.len
      rw [tkI_len, ← tks_len] at hl
      go_wp2
      go_ret
      exact ⟨g, co, by rw [hl]; rfl, tok_ints HO.out, by omega, hcap2, HO.out.block.1, hK⟩
theorem make_cap (n : Nat) (hn : n ≤ 1099511627776) (w : World) : (Instr.makeSlice 23 (.int .i64 0) (.int .i64 n)).run Try.prog w = .ok (.slice (some ⟨w.heap.size, 0, none⟩) 0 n) (w.alloc (.cells (madeCells #[.int .i64 0] n) 3)) := by
  obtain ⟨i0, hi, hz0, hz1, hz2⟩ := info_parts info_int
  have := run_make (P := Try.prog) (w := w) 23 3 i0 _ Try.underlying23 hi hz0 .i64 .i64 0 n (by omega) (by omega) (by rw [hz2]; omega) (by omega)
  rw [this, hz1]
  simp
  rfl
theorem own_make_cap (w : World) (lo n : Nat) (hlo : lo ≤ w.heap.size) (hn : n ≤ 1099511627776) : OwnInts (w.alloc (.cells (madeCells #[.int .i64 0] n) 3)) lo (some ⟨w.heap.size, 0, none⟩) 0 n [] :=
  World.ownsRow_made w _ n hlo (by unfold maxLen; omega) (by simp [size_madeCells])
theorem tok_test {n : Nat} {s : Nat → Nat} {j : Nat} (hn : 2 ≤ n) (hj : j < n) : tokB n s j = ((decide (j = 0)) == (((s j : Nat) : Int) == ((s ((j + n - 1) % n) : Nat) : Int))) := by
  unfold tokB
  by_cases e : j = 0
  · subst e
    rw [if_pos rfl, show (0 + n - 1) % n = n - 1 from by rw [Nat.mod_eq_of_lt (by omega)]; omega, Bool.eq_iff_iff]
    simp
    omega
  · rw [if_neg e, show (j + n - 1) % n = j - 1 from by rw [show j + n - 1 = (j - 1) + n by omega, Nat.add_mod_right, Nat.mod_eq_of_lt (by omega)]]
    have ed : decide (j = 0) = false := by simp [e]
    rw [ed]
    rw [Bool.eq_iff_iff]
    simp
    omega
set_option maxHeartbeats 2000000 in
theorem itokens_any (a : Option Addr) (n c : Nat) (s : Nat → Nat) (w : World) (hn2 : 2 ≤ n) (hn5 : n ≤ 5) (hI : Ints w a n (nf s)) :
    Calls Try.prog 31 #[.slice a n c] w (TokAns n s w) := by
  have HI := Lib.hid hI
  clear hI
  have hmk := make_cap n (by omega)
  have HO0 : Hid (OwnInts (w.alloc (.cells (madeCells #[.int .i64 0] n) 3)) w.heap.size (some ⟨w.heap.size, 0, none⟩) 0 n (tkI n s 0)) := Lib.hid (own_make_cap w w.heap.size n (Nat.le_refl _) (by omega))
  go_enter Try.func31, Try.ntmps31
  go_wp2_with fail
  go_loopw [3, 12] (fun o i wr => ∃ j g m c : Nat, j ≤ n ∧ i = .int .i64 j ∧ m ≤ j ∧ o = .slice (some ⟨g, 0, none⟩) m c ∧ Hid (OwnInts wr w.heap.size (some ⟨g, 0, none⟩) m c (tkI n s j)) ∧ Keeps w wr) (fun _ i _ => n - (intOf i).toNat)
  case atStart => exact ⟨0, w.heap.size, 0, n, by omega, rfl, by omega, rfl, HO0, Keeps.alloc _ _⟩
  case round =>
    clear HO0
    obtain ⟨j, g, m, co, hj, rfl, hm, rfl, HO, hK⟩ := hrel
    have hcap := own_clip HO.out
    have hcap1 := hcap.1
    have hcap2 := hcap.2
    by_cases hlt : j < n
    · have hji : (j : Int) < n := by omega
      have hml : (j + n - 1) % n < n := Nat.mod_lt _ (by omega)
      obtain ⟨d, off, rfl, hcj0⟩ := HI.out j hlt
      obtain ⟨_, _, e, hcl0⟩ := HI.out ((j + n - 1) % n) hml
      cases e
      have hcj := cell_keeps hK hcj0
      have hcl := cell_keeps hK hcl0
      dsimp only [nf] at hcj hcl
      have hn0 : ((n : Int) == 0) = false := by simp; omega
      have hw2 : IntKind.i64.wrap ((j : Int) + n - 1) = (j : Int) + n - 1 := by rw [IntKind.wrap_i64]; omega
      obtain ⟨q, hq⟩ : ∃ q, q = (j + n - 1) % n := ⟨_, rfl⟩
      have ht0 : ((j : Int) + n - 1) % n = (q : Int) := by
        rw [hq, Int.natCast_emod]
        congr 1
        omega
      have ht1 : Int.tmod ((j : Int) + n - 1) n = (q : Int) := by
        rw [Int.tmod_eq_emod_of_nonneg (by omega)]; exact ht0
      have HT := Lib.hid (tok_test (s := s) hn2 hlt)
      rw [← hq] at hml hcl HT
      have hqi : (q : Int) < n := by omega
      have hq0 : (0 : Int) ≤ (q : Int) := by omega
      have hqn : ((q : Int)).toNat = q := by omega
      have HN := Lib.hid (tkI_next n s j)
      obtain ⟨y, hy⟩ : ∃ y, y = ((s j : Nat) : Int) := ⟨_, rfl⟩
      obtain ⟨z, hz⟩ : ∃ z, z = ((s q : Nat) : Int) := ⟨_, rfl⟩
      rw [← hy] at hcj HT
      rw [← hz] at hcl HT
      clear hq hy hz hcj0 hcl0
      cases ht : tokB n s j
      · rw [ht] at HT HN
        clear ht
        by_cases hj0 : j = 0
        · have hyz : (y == z) = false := by have := HT.out; rw [show decide (j = 0) = true by simp [hj0]] at this; simpa using this.symm
          have hjb : ((j : Int) == 0) = true := by simp [hj0]
          clear hj0 HT
          go_wp2
          go_roundw
          case rel => exact ⟨j + 1, g, m, co, by omega, by go_num, by omega, rfl, Lib.hid (by rw [HN.out]; simpa using HO.out), hK⟩
          case measure => simp [intOf]; omega
        · have hyz : (y == z) = true := by have := HT.out; rw [show decide (j = 0) = false by simp [hj0]] at this; simpa using this.symm
          have hjb : ((j : Int) == 0) = false := by simp; omega
          clear hj0 HT
          go_wp2
          go_roundw
          case rel => exact ⟨j + 1, g, m, co, by omega, by go_num, by omega, rfl, Lib.hid (by rw [HN.out]; simpa using HO.out), hK⟩
          case measure => simp [intOf]; omega
      · rw [ht] at HT HN
        clear ht
        by_cases hj0 : j = 0
        · have hyz : (y == z) = true := by have := HT.out; rw [show decide (j = 0) = true by simp [hj0]] at this; simpa using this.symm
          have hjb : ((j : Int) == 0) = true := by simp [hj0]
          clear hj0 HT
          have HKZ := Lib.hid hK.size
          go_wp2_with (first | (at_builtin; refine wp_app_int rfl _ _ rfl w.heap.size (some ⟨g, 0, none⟩) m co (tkI n s j) _ rfl HO.out _ rfl (by omega) HKZ.out ?_; intro g6 c6 w6 hO6 hg6))
          have HO6 : Hid (OwnInts w6 w.heap.size (some ⟨g6, 0, none⟩) (m + 1) c6 (tkI n s (j + 1))) := Lib.hid (by rw [HN.out]; exact hO6)
          have hK6 : Keeps w w6 := hK.grown HO.out (Nat.le_refl _) hg6
          clear hO6 hg6
          go_roundw
          case rel => exact ⟨j + 1, g6, m + 1, c6, by omega, by go_num, by omega, rfl, HO6, hK6⟩
          case measure => simp [intOf]; omega
        · have hyz : (y == z) = false := by have := HT.out; rw [show decide (j = 0) = false by simp [hj0]] at this; simpa using this.symm
          have hjb : ((j : Int) == 0) = false := by simp; omega
          clear hj0 HT
          have HKZ := Lib.hid hK.size
          go_wp2_with (first | (at_builtin; refine wp_app_int rfl _ _ rfl w.heap.size (some ⟨g, 0, none⟩) m co (tkI n s j) _ rfl HO.out _ rfl (by omega) HKZ.out ?_; intro g6 c6 w6 hO6 hg6))
          have HO6 : Hid (OwnInts w6 w.heap.size (some ⟨g6, 0, none⟩) (m + 1) c6 (tkI n s (j + 1))) := Lib.hid (by rw [HN.out]; exact hO6)
          have hK6 : Keeps w w6 := hK.grown HO.out (Nat.le_refl _) hg6
          clear hO6 hg6
          go_roundw
          case rel => exact ⟨j + 1, g6, m + 1, c6, by omega, by go_num, by omega, rfl, HO6, hK6⟩
          case measure => simp [intOf]; omega
    · obtain rfl : j = n := by omega
      have hl := HO.out.len
      rw [tkI_len, ← tks_len] at hl
      go_wp2
      go_ret
      exact ⟨g, m, by rw [hl]; rfl, tok_ints HO.out, by omega, by omega, HO.out.block.1, hK⟩
end Go.Proofs.Ytpgipkcbdppplaa
