/-
  The contracts of states of a number and of moves. Condition: two to five states and machines.
-/
import Derived.Test.YtpgipkcbdppplaaTokC
namespace Go.Proofs.Ytpgipkcbdppplaa
set_option linter.unusedVariables false
open Go.RowKit

theorem dig_div (k x i : Nat) : x / k ^ i / k = x / k ^ (i + 1) := by rw [Nat.div_div_eq_div_mul, Nat.pow_succ]
set_option maxHeartbeats 1000000 in
theorem statesOf_any (k n x : Nat) (w : World) (hk2 : 2 ≤ k) (hk5 : k ≤ 5) (hn2 : 2 ≤ n) (hn5 : n ≤ 5) (hx : x < 3125) :
    Calls Try.prog 38 #[.int .i64 k, .int .i64 n, .int .i64 x] w (NewInts n (nf (digN k n x)) w) := by
  have hmk := make_ints n (by omega)
  have HO0 : Hid (OwnInts (w.alloc (.cells (madeCells #[.int .i64 0] n) 3)) w.heap.size (some ⟨w.heap.size, 0, none⟩) n n (il n (fun j => if n ≤ j then ((digN k n x j : Nat) : Int) else 0))) := Lib.hid (by
    have h := OwnInts.make w w.heap.size n (Nat.le_refl _) (by omega)
    rw [il_zero] at h
    rw [il_congr n _ (fun _ => 0) (fun i hi => by rw [if_neg (by omega)])]
    exact h)
  have hk0 : ((k : Int) == 0) = false := by simp; omega
  have hkz : ¬ k = 0 := by omega
  go_enter Try.func38, Try.ntmps38
  go_wp2_with fail
  go_loopw [8, 2] (fun i v wr => ∃ j : Nat, j ≤ n ∧ i = .int .i64 ((j : Int) - 1) ∧ v = .int .i64 ((x / k ^ (n - j) : Nat) : Int) ∧ Hid (OwnInts wr w.heap.size (some ⟨w.heap.size, 0, none⟩) n n (il n (fun y => if j ≤ y then ((digN k n x y : Nat) : Int) else 0))) ∧ Keeps w wr) (fun i _ _ => (intOf i + 1).toNat)
  case atStart => exact ⟨n, by omega, rfl, by simp, HO0, Keeps.alloc _ _⟩
  case round =>
    clear HO0
    obtain ⟨j, hj, rfl, rfl, HO, hK⟩ := hrel
    by_cases hlt : 0 < j
    · obtain ⟨i, rfl⟩ : ∃ i, j = i + 1 := ⟨j - 1, by omega⟩
      have e1 : (((i + 1 : Nat) : Int) - 1) = (i : Int) := by omega
      rw [e1]
      have hii : (i : Int) < n := by omega
      have hc := HO.out.cell i (by omega)
      have hf := HO.out.frozen i
      have HD := Lib.hid (show digN k n x i = x / k ^ (n - (i + 1)) % k from by unfold digN; rw [show n - 1 - i = n - (i + 1) by omega])
      have HX := Lib.hid (show x / k ^ (n - (i + 1)) / k = x / k ^ (n - i) from by rw [dig_div, show n - (i + 1) + 1 = n - i by omega])
      have hxb : x / k ^ (n - (i + 1)) < 3125 := Nat.lt_of_le_of_lt (Nat.div_le_self _ _) hx
      generalize x / k ^ (n - (i + 1)) = y at *
      have HSET := Lib.hid (HO.out.set i ((y % k : Nat) : Int))
      have hyk : (y : Int) % k = ((y % k : Nat) : Int) := by omega
      have hyt : Int.tmod (y : Int) k = ((y % k : Nat) : Int) := by rw [Int.tmod_eq_emod_of_nonneg (by omega)]; exact hyk
      have hyd : (y : Int) / k = ((y / k : Nat) : Int) := by omega
      have hydt : Int.tdiv (y : Int) k = ((y / k : Nat) : Int) := by rw [Int.tdiv_eq_ediv_of_nonneg (by omega)]; exact hyd
      have hyd0 : y / k ≤ y := Nat.div_le_self _ _
      have hym0 : y % k ≤ y := Nat.mod_le _ _
      have HY := Lib.hid (show ((y % k : Nat) : Int) = ((y % k : Nat) : Int) from rfl)
      obtain ⟨z, hz⟩ : ∃ z, z = y % k := ⟨_, rfl⟩
      obtain ⟨d, hd⟩ : ∃ d, d = y / k := ⟨_, rfl⟩
      rw [← hz] at HD HSET hyk hyt hym0
      rw [← hd] at HX hyd hydt hyd0
      clear hz hd e1 HY
      have HIL : Hid (OwnInts (wr.setCell ⟨w.heap.size, i, none⟩ (.int .i64 (z : Int))) w.heap.size (some ⟨w.heap.size, 0, none⟩) n n (il n (fun y => if i ≤ y then ((digN k n x y : Nat) : Int) else 0))) := Lib.hid (by
        have h := HSET.out
        rw [il_set, il_congr n _ (fun y => if i ≤ y then ((digN k n x y : Nat) : Int) else 0) (fun y _ => by
          by_cases e : y = i
          · subst e; rw [if_pos rfl, if_pos (Nat.le_refl _), HD.out]
          · by_cases e2 : i ≤ y
            · rw [if_neg e, if_pos (by omega), if_pos e2]
            · rw [if_neg e, if_neg (by omega), if_neg e2])] at h
        exact h)
      go_wp2_with fail
      go_roundw
      case rel => exact ⟨i, by omega, rfl, by rw [HX.out], HIL, hK.setCell (Nat.le_refl _) _⟩
      case measure => simp [intOf]
    · obtain rfl : j = 0 := by omega
      have e1 : (((0 : Nat) : Int) - 1) = -1 := by omega
      rw [e1]
      clear e1
      go_wp2
      go_ret
      refine ⟨w.heap.size, n, rfl, ?_, hK⟩
      have h := HO.out
      rw [il_congr n _ (nf (digN k n x)) (fun y _ => by rw [if_pos (Nat.zero_le _)])] at h
      exact h
theorem own_mov0 {w : World} {lo g n c k : Nat} {s : Nat → Nat} {y : Int} (h : OwnInts w lo (some ⟨g, 0, none⟩) n c ((il n (nf s)).set 0 y)) (hy : y = (((s 0 + 1) % k : Nat) : Int)) : OwnInts w lo (some ⟨g, 0, none⟩) n c (il n (nf (movF k s 0))) := by
  subst hy
  rw [il_set] at h
  rw [il_congr n (nf (movF k s 0)) (fun j => if j = 0 then (((s 0 + 1) % k : Nat) : Int) else nf s j) (fun j _ => by
    dsimp only [nf]
    unfold movF
    by_cases e : j = 0
    · rw [if_pos e, if_pos rfl, if_pos e]
    · rw [if_neg e, if_neg e])]
  exact h
theorem own_movi {w : World} {lo g n c k i : Nat} {s : Nat → Nat} {y : Int} (h : OwnInts w lo (some ⟨g, 0, none⟩) n c ((il n (nf s)).set (i + 1) y)) (hy : y = ((s i : Nat) : Int)) : OwnInts w lo (some ⟨g, 0, none⟩) n c (il n (nf (movF k s (i + 1)))) := by
  subst hy
  rw [il_set] at h
  rw [il_congr n (nf (movF k s (i + 1))) (fun j => if j = i + 1 then ((s i : Nat) : Int) else nf s j) (fun j _ => by
    dsimp only [nf]
    unfold movF
    by_cases e : j = i + 1
    · rw [if_pos e, if_neg (by omega), if_pos e, Nat.add_sub_cancel]
    · rw [if_neg e, if_neg e])]
  exact h
set_option maxHeartbeats 1000000 in
theorem smove_any (a : Option Addr) (k n c i : Nat) (s : Nat → Nat) (w : World) (hT : TokS k n s) (hi : i < n) (hI : Ints w a n (nf s)) :
    Calls Try.prog 39 #[.int .i64 k, .slice a n c, .int .i64 i] w (NewInts n (nf (movF k s i)) w) := by
  obtain ⟨d, off, rfl, _⟩ := hI 0 (by have := hT.n2; omega)
  have HW : Hid (∀ j, j < n → w.cell? ⟨d, off + j, none⟩ = some (.int .i64 (nf s j))) := Lib.hid (fun j hj => by
    obtain ⟨_, _, e, hc⟩ := hI j hj
    cases e
    exact hc)
  have hk2 := hT.k2
  have hk5 := hT.k5
  have hn2 := hT.n2
  have hn5 := hT.n5
  have HLT := Lib.hid hT.lt
  have hk0 : ((k : Int) == 0) = false := by simp; omega
  have hkz : ¬ k = 0 := by omega
  have HM0 := Lib.hid (OwnInts.made w w.heap.size (Nat.le_refl _))
  have HZ : Hid (∀ j, j < n → (w.alloc (.cells #[] 3)).cell? ⟨d, off + j, none⟩ = some (.int .i64 (nf s j))) := Lib.hid (fun j hj => cell_keeps (Keeps.alloc _ _) (HW.out j hj))
  have HFA : Hid (∀ (g c2 : Nat) (w6 : World), OwnInts w6 w.heap.size (some ⟨g, 0, none⟩) (0 + n) c2 ([] ++ (List.range n).map (nf s)) → (w.alloc (.cells #[] 3)).grownBy w6 ((some (⟨w.heap.size, 0, none⟩ : Addr)).map (·.block)) → OwnInts w6 w.heap.size (some ⟨g, 0, none⟩) n c2 (il n (nf s)) ∧ Keeps w w6 ∧ w.heap.size ≤ g) := Lib.hid (fun g c2 w6 h hg => by
    rw [Nat.zero_add, List.nil_append] at h
    exact ⟨h, (Keeps.alloc _ _).grown HM0.out (Nat.le_refl _) hg, h.block.1⟩)
  clear hI hT
  by_cases hi0 : i = 0
  · subst hi0
    have hd0 := HW.out 0 hi
    dsimp only [nf] at hd0
    rw [Nat.add_zero] at hd0
    have hs := HLT.out 0 hi
    have hy : (((s 0 : Nat) : Int) + 1) % k = (((s 0 + 1) % k : Nat) : Int) := by rw [Int.natCast_emod, Int.natCast_add]; rfl
    obtain ⟨z, hz⟩ : ∃ z, z = (((s 0 + 1) % k : Nat) : Int) := ⟨_, rfl⟩
    rw [← hz] at hy
    have hyt : Int.tmod (((s 0 : Nat) : Int) + 1) k = z := by rw [Int.tmod_eq_emod_of_nonneg (by omega)]; exact hy
    have hzb : 0 ≤ z ∧ z ≤ 5 := by rw [hz]; have := Nat.mod_lt (s 0 + 1) (show 0 < k by omega); omega
    have HZZ := Lib.hid hz
    have hx0 : (0 : Int) ≤ ((s 0 : Nat) : Int) := by omega
    have hx5 : ((s 0 : Nat) : Int) ≤ 5 := by omega
    obtain ⟨x, hx⟩ : ∃ x, x = ((s 0 : Nat) : Int) := ⟨_, rfl⟩
    rw [← hx] at hy hyt hx0 hx5 hd0
    have HC : Hid (∀ (w6 : World) (g c2 : Nat), OwnInts w6 w.heap.size (some ⟨g, 0, none⟩) n c2 (il n (nf s)) → w6.cell? ⟨g, 0, none⟩ = some (.int .i64 x) ∧ w6.frozen? ⟨g, 0, none⟩ = false) := Lib.hid (fun w6 g c2 h => by
      have hc := h.cell 0 hi
      rw [il_getD n _ 0 hi] at hc
      rw [hx]
      exact ⟨hc, h.frozen 0⟩)
    clear hz hs hx
    have hn0 : 0 < n := by omega
    have hn0i : (0 : Int) < n := by omega
    have hz0 := hzb.1
    have hz5 := hzb.2
    clear hzb
    go_enter Try.func39, Try.ntmps39
    go_wp2_with (first | (at_builtin; refine wp_spread_int rfl _ _ rfl w.heap.size _ 0 0 [] _ rfl HM0.out d off n c (nf s) rfl HZ.out (by omega) (by omega) (Keeps.alloc _ _).size ?_; intro g c2 w6 hO6 hg6; obtain ⟨hO7, hK6, hgb⟩ := HFA.out _ _ _ hO6 hg6; obtain ⟨hc0, hf0⟩ := HC.out _ _ _ hO7; have HO6 := Lib.hid hO7; clear hO6 hg6 hO7))
    go_wp2_with fail
    go_ret
    have HM := Lib.hid (own_mov0 (k := k) (HO6.out.set 0 z) HZZ.out)
    exact ⟨g, c2, rfl, HM.out, hK6.setCell hgb _⟩
  · obtain ⟨i, rfl⟩ : ∃ i', i = i' + 1 := ⟨i - 1, by omega⟩
    have hb : (((i + 1 : Nat) : Int) == 0) = false := by simp; omega
    have hb2 : (((i : Nat) : Int) + 1 == 0) = false := by simp; omega
    have hd0 := HW.out i (by omega)
    dsimp only [nf] at hd0
    obtain ⟨x, hx⟩ : ∃ x, x = ((s i : Nat) : Int) := ⟨_, rfl⟩
    rw [← hx] at hd0
    have HX := Lib.hid hx
    have HC : Hid (∀ (w6 : World) (g c2 : Nat), OwnInts w6 w.heap.size (some ⟨g, 0, none⟩) n c2 (il n (nf s)) → w6.cell? ⟨g, i, none⟩ = some (.int .i64 x) ∧ w6.frozen? ⟨g, i + 1, none⟩ = false ∧ ∃ v, w6.cell? ⟨g, i + 1, none⟩ = some v) := Lib.hid (fun w6 g c2 h => by
      have hc := h.cell i (by omega)
      rw [il_getD n _ i (by omega)] at hc
      rw [hx]
      exact ⟨hc, h.frozen (i + 1), _, h.cell (i + 1) hi⟩)
    clear hi0 hx
    have hii : (i : Int) < n := by omega
    have hii1 : (i : Int) + 1 < n := by omega
    go_enter Try.func39, Try.ntmps39
    go_wp2_with (first | (at_builtin; refine wp_spread_int rfl _ _ rfl w.heap.size _ 0 0 [] _ rfl HM0.out d off n c (nf s) rfl HZ.out (by omega) (by omega) (Keeps.alloc _ _).size ?_; intro g c2 w6 hO6 hg6; obtain ⟨hO7, hK6, hgb⟩ := HFA.out _ _ _ hO6 hg6; obtain ⟨hc0, hf1, v1, hc1⟩ := HC.out _ _ _ hO7; have HO6 := Lib.hid hO7; clear hO6 hg6 hO7))
    go_wp2_with fail
    go_ret
    have HM := Lib.hid (own_movi (k := k) (HO6.out.set (i + 1) x) HX.out)
    exact ⟨g, c2, rfl, HM.out, hK6.setCell hgb _⟩
/-- Ints in new memory, cut to their length. -/
def CutInts (n : Nat) (x : Nat → Int) (w : World) (e : Ending) (w' : World) : Prop :=
  ∃ g : Nat, e = .returned (.slice (some ⟨g, 0, none⟩) n n) ∧ Ints w' (some ⟨g, 0, none⟩) n x ∧ w.heap.size ≤ g ∧ Keeps w w'
theorem il_ints' {w : World} {lo n c : Nat} {A : Option Addr} {x : Nat → Int} (h : OwnInts w lo A n c (il n x)) : Ints w A n x := fun i hi => by
  obtain ⟨d, off, e, hc⟩ := h.ints i hi
  dsimp only at hc
  exact ⟨d, off, e, by rw [il_getD n x i hi] at hc; exact hc⟩
set_option maxHeartbeats 1000000 in
theorem moved_any (a : Option Addr) (k n c i : Nat) (s : Nat → Nat) (w : World) (hT : TokS k n s) (hi : i < n) (hI : Ints w a n (nf s)) :
    Calls Try.prog 33 #[.int .i64 k, .slice a n c, .int .i64 i] w (CutInts n (nf (movF k s i)) w) := by
  obtain ⟨d, off, rfl, _⟩ := hI 0 (by have := hT.n2; omega)
  have HW : Hid (∀ j, j < n → w.cell? ⟨d, off + j, none⟩ = some (.int .i64 (nf s j))) := Lib.hid (fun j hj => by
    obtain ⟨_, _, e, hc⟩ := hI j hj
    cases e
    exact hc)
  have hk2 := hT.k2
  have hk5 := hT.k5
  have hn2 := hT.n2
  have hn5 := hT.n5
  have HLT := Lib.hid hT.lt
  have hk0 : ((k : Int) == 0) = false := by simp; omega
  have hkz : ¬ k = 0 := by omega
  clear hI hT
  by_cases hi0 : i = 0
  · subst hi0
    have hd0 := HW.out 0 hi
    dsimp only [nf] at hd0
    rw [Nat.add_zero] at hd0
    have hs := HLT.out 0 hi
    have hy : (((s 0 : Nat) : Int) + 1) % k = (((s 0 + 1) % k : Nat) : Int) := by rw [Int.natCast_emod, Int.natCast_add]; rfl
    obtain ⟨z, hz⟩ : ∃ z, z = (((s 0 + 1) % k : Nat) : Int) := ⟨_, rfl⟩
    rw [← hz] at hy
    have hyt : Int.tmod (((s 0 : Nat) : Int) + 1) k = z := by rw [Int.tmod_eq_emod_of_nonneg (by omega)]; exact hy
    have hzb : 0 ≤ z ∧ z ≤ 5 := by rw [hz]; have := Nat.mod_lt (s 0 + 1) (show 0 < k by omega); omega
    have HZZ := Lib.hid hz
    have hx0 : (0 : Int) ≤ ((s 0 : Nat) : Int) := by omega
    have hx5 : ((s 0 : Nat) : Int) ≤ 5 := by omega
    obtain ⟨x, hx⟩ : ∃ x, x = ((s 0 : Nat) : Int) := ⟨_, rfl⟩
    rw [← hx] at hy hyt hx0 hx5 hd0
    have HC : Hid (∀ (w6 : World) (g c2 : Nat), OwnInts w6 w.heap.size (some ⟨g, 0, none⟩) n c2 (il n (nf s)) → w6.cell? ⟨g, 0, none⟩ = some (.int .i64 x) ∧ w6.frozen? ⟨g, 0, none⟩ = false) := Lib.hid (fun w6 g c2 h => by
      have hc := h.cell 0 hi
      rw [il_getD n _ 0 hi] at hc
      rw [hx]
      exact ⟨hc, h.frozen 0⟩)
    clear hz hs hx
    have hn0 : 0 < n := by omega
    have hn0i : (0 : Int) < n := by omega
    have hz0 := hzb.1
    have hz5 := hzb.2
    clear hzb
    go_enter Try.func33, Try.ntmps33
    go_wp2_with fail
    refine (slClone_any d off n c (nf s) w (by omega) (by omega) HW.out).mono ?_
    rintro e w6 ⟨g, c2, rfl, hO6, hK6⟩
    obtain ⟨hc0, hf0⟩ := HC.out _ _ _ hO6
    have HO6 := Lib.hid hO6
    have hcc := own_clip hO6
    have hgb := hO6.block.1
    have hd6 := cell_keeps hK6 hd0
    clear hO6
    go_wp2_with fail
    refine (slClip_any g n c2 w6 hcc.1).mono ?_
    rintro e w7 ⟨rfl, rfl⟩
    go_wp2_with fail
    go_ret
    have HM := Lib.hid (own_mov0 (k := k) (HO6.out.set 0 z) HZZ.out)
    exact ⟨g, rfl, il_ints' HM.out, hgb, hK6.setCell hgb _⟩
  · obtain ⟨i, rfl⟩ : ∃ i', i = i' + 1 := ⟨i - 1, by omega⟩
    have hb : (((i + 1 : Nat) : Int) == 0) = false := by simp; omega
    have hb2 : (((i : Nat) : Int) + 1 == 0) = false := by simp; omega
    have hd0 := HW.out i (by omega)
    dsimp only [nf] at hd0
    obtain ⟨x, hx⟩ : ∃ x, x = ((s i : Nat) : Int) := ⟨_, rfl⟩
    rw [← hx] at hd0
    have HX := Lib.hid hx
    have HC : Hid (∀ (w6 : World) (g c2 : Nat), OwnInts w6 w.heap.size (some ⟨g, 0, none⟩) n c2 (il n (nf s)) → w6.cell? ⟨g, i, none⟩ = some (.int .i64 x) ∧ w6.frozen? ⟨g, i + 1, none⟩ = false ∧ ∃ v, w6.cell? ⟨g, i + 1, none⟩ = some v) := Lib.hid (fun w6 g c2 h => by
      have hc := h.cell i (by omega)
      rw [il_getD n _ i (by omega)] at hc
      rw [hx]
      exact ⟨hc, h.frozen (i + 1), _, h.cell (i + 1) hi⟩)
    clear hi0 hx
    have hii : (i : Int) < n := by omega
    have hii1 : (i : Int) + 1 < n := by omega
    go_enter Try.func33, Try.ntmps33
    go_wp2_with fail
    refine (slClone_any d off n c (nf s) w (by omega) (by omega) HW.out).mono ?_
    rintro e w6 ⟨g, c2, rfl, hO6, hK6⟩
    obtain ⟨hc0, hf1, v1, hc1⟩ := HC.out _ _ _ hO6
    have HO6 := Lib.hid hO6
    have hcc := own_clip hO6
    have hgb := hO6.block.1
    have hd6 := cell_keeps hK6 hd0
    clear hO6
    go_wp2_with fail
    refine (slClip_any g n c2 w6 hcc.1).mono ?_
    rintro e w7 ⟨rfl, rfl⟩
    go_wp2_with fail
    go_ret
    have HM := Lib.hid (own_movi (k := k) (HO6.out.set (i + 1) x) HX.out)
    exact ⟨g, rfl, il_ints' HM.out, hgb, hK6.setCell hgb _⟩
end Go.Proofs.Ytpgipkcbdppplaa
