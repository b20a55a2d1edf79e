/-
  The verdicts of small crowds by the four named tables. Plain laws; no condition.
-/
import Derived.Test.YtaejakejnllimaaCrowdLaw
import Derived.Test.YtaejakejnllimaaTables
import Derived.Test.YtaejakejnllimaaWrap
namespace Go.Proofs.Ytaejakejnllimaa
set_option linter.unusedVariables false
set_option maxRecDepth 100000

def stepOk (F G : Nat → Nat → Nat) (n : Nat) (S : List (List Int)) : List (List Int) → List (List Int) → Bool
  | _, [] => true
  | seen, x :: P => (S.contains x || (allM F G x n n).any (fun y => seen.contains y)) && stepOk F G n S (x :: seen) P
/-- P holds c and is closed; S is closed and says v; from each of P one of S is reached. -/
def tabOk (F G : Nat → Nat → Nat) (n : Nat) (s : Nat → Int) (c : List Int) (v : Int) (P S : List (List Int)) : Bool :=
  P.contains c && P.all (fun x => (allM F G x n n).all (fun y => P.contains y)) && S.all (fun y => voice s n y == v && (allM F G y n n).all (fun z => S.contains z)) && stepOk F G n S [] P
section
variable {F G : Nat → Nat → Nat} {n : Nat} {s : Nat → Int} {c : List Int} {v : Int} {P S : List (List Int)}
theorem mem_next_all {x y : List Int} : y ∈ nextL F G n x ↔ y ∈ allM F G x n n := by unfold nextL; rw [mem_canL]
theorem stepOk_to (hS : ∀ x ∈ S, Rch F G n x x) : ∀ (P seen : List (List Int)), stepOk F G n S seen P = true → (∀ x ∈ seen, ∃ y ∈ S, Rch F G n x y) → ∀ x ∈ P, ∃ y ∈ S, Rch F G n x y
  | [], _, _, _, x, hx => by simp at hx
  | z :: P, seen, h, hs, x, hx => by
    simp only [stepOk, Bool.and_eq_true, Bool.or_eq_true] at h
    have hz : ∃ y ∈ S, Rch F G n z y := by
      rcases h.1 with h1 | h1
      · exact ⟨z, by simpa using h1, .refl⟩
      · obtain ⟨y, hy, h2⟩ := List.any_eq_true.1 h1
        obtain ⟨u, hu, h3⟩ := hs y (by simpa using h2)
        exact ⟨u, hu, (Rch.step .refl (mem_next_all.2 hy)).trans h3⟩
    rcases List.mem_cons.1 hx with e | e
    · subst e; exact hz
    · refine stepOk_to hS P (z :: seen) h.2 (fun u hu => ?_) x e
      rcases List.mem_cons.1 hu with e2 | e2
      · subst e2; exact hz
      · exact hs u e2
theorem verd_by (hR : Rul n F G) (hs : ∀ k, k < n → s k = 0 ∨ s k = 1) (hc : Crw n c) (hv : v = 0 ∨ v = 1) (h : tabOk F G n s c v P S = true) : verd F G n s c = v := by
  unfold tabOk at h
  simp only [Bool.and_eq_true, List.all_eq_true] at h
  obtain ⟨⟨⟨h1, h2⟩, h3⟩, h4⟩ := h
  have hP : ∀ x, Rch F G n c x → x ∈ P := fun x hx => by
    induction hx with
    | refl => simpa using h1
    | step _ hy ih => simpa using h2 _ ih _ (mem_next_all.1 hy)
  have hSc : ∀ y ∈ S, ∀ z, Rch F G n y z → z ∈ S := fun y hy z hz => by
    induction hz with
    | refl => exact hy
    | step _ hw ih => simpa using (h3 _ ih).2 _ (mem_next_all.1 hw)
  refine verd_of hR hs hc hv ((canB_up hR hc).2 fun x hx => ?_)
  obtain ⟨y, hy, h5⟩ := stepOk_to (S := S) (fun x _ => .refl) P [] h4 (fun x hx => by simp at hx) x (hP x hx)
  refine ⟨y, h5, ?_⟩
  have hyc := (h5.crw hR (hx.crw hR hc).1).1
  unfold stead voL
  refine vo_all (fun e => ?_) (fun u hu => ?_)
  · have h6 := (mem_rchL hR hyc).2 (Rch.refl (F := F) (G := G) (n := n) (c := y))
    rw [List.map_eq_nil_iff] at e
    rw [e] at h6
    simp at h6
  · obtain ⟨z, hz, rfl⟩ := List.mem_map.1 hu
    simpa using (h3 z (hSc y hy z ((mem_rchL hR hyc).1 hz))).1
end
theorem verdT {n : Nat} {s : Nat → Int} {f g : Nat → Nat → Int} {l : List Int} {v : Int} (P S : List (List Int)) (hR : (List.range n).all (fun a => (s a == 0 || s a == 1) && (List.range n).all (fun b => decide (0 ≤ f a b) && decide (f a b ≤ (n : Int) - 1) && decide (0 ≤ g a b) && decide (g a b ≤ (n : Int) - 1))) = true) (hn : 1 ≤ n ∧ n ≤ 4) (hl : (decide (l.length = n) && l.all (fun x => decide (0 ≤ x)) && decide (l.sum ≤ 5)) = true) (hv : v = 0 ∨ v = 1) (h : tabOk (fun i j => (f i j).toNat) (fun i j => (g i j).toNat) n s l v P S = true) (rA rB : Nat → Option Addr × Nat × Nat) (hA : ∀ i, i < n → (rA i).2.1 = n) (hB : ∀ i, i < n → (rB i).2.1 = n) :
    (if (rulB n s n rA f n rB g && crwB n l) then verd (natF f) (natF g) n s l else -1) = v := by
  simp only [List.all_eq_true, List.mem_range, Bool.and_eq_true, decide_eq_true_eq, Bool.or_eq_true, beq_iff_eq] at hR hl
  have hW : Crw n l := ⟨hl.1.1, hl.1.2, hl.2⟩
  have h1 : rulB n s n rA f n rB g = true := rulB_iff.2 ⟨hn, rfl, rfl, fun a ha => ⟨(hR a ha).1, hA a ha, hB a ha, fun b hb => by have := (hR a ha).2 b hb; omega⟩⟩
  rw [h1, crwB_iff.2 hW, Bool.true_and, if_pos rfl]
  exact verd_by (fun a b ha hb => by have := (hR a ha).2 b hb; unfold natF; omega) (fun k hk => (hR k hk).1) hW hv h
theorem rulT {n : Nat} {s : Nat → Int} {f g : Nat → Nat → Int} (hR : (List.range n).all (fun a => (s a == 0 || s a == 1) && (List.range n).all (fun b => decide (0 ≤ f a b) && decide (f a b ≤ (n : Int) - 1) && decide (0 ≤ g a b) && decide (g a b ≤ (n : Int) - 1))) = true) (hn : 1 ≤ n ∧ n ≤ 4) (rA rB : Nat → Option Addr × Nat × Nat) (hA : ∀ i, i < n → (rA i).2.1 = n) (hB : ∀ i, i < n → (rB i).2.1 = n) : rulB n s n rA f n rB g = true := by
  simp only [List.all_eq_true, List.mem_range, Bool.and_eq_true, decide_eq_true_eq, Bool.or_eq_true, beq_iff_eq] at hR
  exact rulB_iff.2 ⟨hn, rfl, rfl, fun a ha => ⟨(hR a ha).1, hA a ha, hB a ha, fun b hb => by have := (hR a ha).2 b hb; omega⟩⟩
theorem verd_some_01 (rA rB : Nat → Option Addr × Nat × Nat) (hA : ∀ i, i < 2 → (rA i).2.1 = 2) (hB : ∀ i, i < 2 → (rB i).2.1 = 2) : (if (rulB 2 (lsI [0, 1]) 2 rA (lsII [[0, 1], [1, 1]]) 2 rB (lsII [[0, 1], [1, 1]]) && crwB 2 [0, 1]) then verd (natF (lsII [[0, 1], [1, 1]])) (natF (lsII [[0, 1], [1, 1]])) 2 (lsI [0, 1]) [0, 1] else -1) = 1 :=
  verdT [[0, 1]] [[0, 1]] (by decide +kernel) (by omega) (by decide +kernel) (by omega) (by decide +kernel) rA rB hA hB
theorem verd_some_02 (rA rB : Nat → Option Addr × Nat × Nat) (hA : ∀ i, i < 2 → (rA i).2.1 = 2) (hB : ∀ i, i < 2 → (rB i).2.1 = 2) : (if (rulB 2 (lsI [0, 1]) 2 rA (lsII [[0, 1], [1, 1]]) 2 rB (lsII [[0, 1], [1, 1]]) && crwB 2 [0, 2]) then verd (natF (lsII [[0, 1], [1, 1]])) (natF (lsII [[0, 1], [1, 1]])) 2 (lsI [0, 1]) [0, 2] else -1) = 1 :=
  verdT [[0, 2]] [[0, 2]] (by decide +kernel) (by omega) (by decide +kernel) (by omega) (by decide +kernel) rA rB hA hB
theorem verd_some_03 (rA rB : Nat → Option Addr × Nat × Nat) (hA : ∀ i, i < 2 → (rA i).2.1 = 2) (hB : ∀ i, i < 2 → (rB i).2.1 = 2) : (if (rulB 2 (lsI [0, 1]) 2 rA (lsII [[0, 1], [1, 1]]) 2 rB (lsII [[0, 1], [1, 1]]) && crwB 2 [0, 3]) then verd (natF (lsII [[0, 1], [1, 1]])) (natF (lsII [[0, 1], [1, 1]])) 2 (lsI [0, 1]) [0, 3] else -1) = 1 :=
  verdT [[0, 3]] [[0, 3]] (by decide +kernel) (by omega) (by decide +kernel) (by omega) (by decide +kernel) rA rB hA hB
theorem verd_some_10 (rA rB : Nat → Option Addr × Nat × Nat) (hA : ∀ i, i < 2 → (rA i).2.1 = 2) (hB : ∀ i, i < 2 → (rB i).2.1 = 2) : (if (rulB 2 (lsI [0, 1]) 2 rA (lsII [[0, 1], [1, 1]]) 2 rB (lsII [[0, 1], [1, 1]]) && crwB 2 [1, 0]) then verd (natF (lsII [[0, 1], [1, 1]])) (natF (lsII [[0, 1], [1, 1]])) 2 (lsI [0, 1]) [1, 0] else -1) = 0 :=
  verdT [[1, 0]] [[1, 0]] (by decide +kernel) (by omega) (by decide +kernel) (by omega) (by decide +kernel) rA rB hA hB
theorem verd_some_11 (rA rB : Nat → Option Addr × Nat × Nat) (hA : ∀ i, i < 2 → (rA i).2.1 = 2) (hB : ∀ i, i < 2 → (rB i).2.1 = 2) : (if (rulB 2 (lsI [0, 1]) 2 rA (lsII [[0, 1], [1, 1]]) 2 rB (lsII [[0, 1], [1, 1]]) && crwB 2 [1, 1]) then verd (natF (lsII [[0, 1], [1, 1]])) (natF (lsII [[0, 1], [1, 1]])) 2 (lsI [0, 1]) [1, 1] else -1) = 1 :=
  verdT [[0, 2], [1, 1]] [[0, 2]] (by decide +kernel) (by omega) (by decide +kernel) (by omega) (by decide +kernel) rA rB hA hB
theorem verd_some_12 (rA rB : Nat → Option Addr × Nat × Nat) (hA : ∀ i, i < 2 → (rA i).2.1 = 2) (hB : ∀ i, i < 2 → (rB i).2.1 = 2) : (if (rulB 2 (lsI [0, 1]) 2 rA (lsII [[0, 1], [1, 1]]) 2 rB (lsII [[0, 1], [1, 1]]) && crwB 2 [1, 2]) then verd (natF (lsII [[0, 1], [1, 1]])) (natF (lsII [[0, 1], [1, 1]])) 2 (lsI [0, 1]) [1, 2] else -1) = 1 :=
  verdT [[0, 3], [1, 2]] [[0, 3]] (by decide +kernel) (by omega) (by decide +kernel) (by omega) (by decide +kernel) rA rB hA hB
theorem verd_some_20 (rA rB : Nat → Option Addr × Nat × Nat) (hA : ∀ i, i < 2 → (rA i).2.1 = 2) (hB : ∀ i, i < 2 → (rB i).2.1 = 2) : (if (rulB 2 (lsI [0, 1]) 2 rA (lsII [[0, 1], [1, 1]]) 2 rB (lsII [[0, 1], [1, 1]]) && crwB 2 [2, 0]) then verd (natF (lsII [[0, 1], [1, 1]])) (natF (lsII [[0, 1], [1, 1]])) 2 (lsI [0, 1]) [2, 0] else -1) = 0 :=
  verdT [[2, 0]] [[2, 0]] (by decide +kernel) (by omega) (by decide +kernel) (by omega) (by decide +kernel) rA rB hA hB
theorem verd_some_21 (rA rB : Nat → Option Addr × Nat × Nat) (hA : ∀ i, i < 2 → (rA i).2.1 = 2) (hB : ∀ i, i < 2 → (rB i).2.1 = 2) : (if (rulB 2 (lsI [0, 1]) 2 rA (lsII [[0, 1], [1, 1]]) 2 rB (lsII [[0, 1], [1, 1]]) && crwB 2 [2, 1]) then verd (natF (lsII [[0, 1], [1, 1]])) (natF (lsII [[0, 1], [1, 1]])) 2 (lsI [0, 1]) [2, 1] else -1) = 1 :=
  verdT [[0, 3], [1, 2], [2, 1]] [[0, 3]] (by decide +kernel) (by omega) (by decide +kernel) (by omega) (by decide +kernel) rA rB hA hB
theorem verd_three_01 (rA rB : Nat → Option Addr × Nat × Nat) (hA : ∀ i, i < 4 → (rA i).2.1 = 4) (hB : ∀ i, i < 4 → (rB i).2.1 = 4) : (if (rulB 4 (lsI [0, 0, 0, 1]) 4 rA (lsII [[0, 1, 2, 3], [1, 2, 3, 3], [2, 3, 3, 3], [3, 3, 3, 3]]) 4 rB (lsII [[0, 0, 0, 3], [0, 0, 3, 3], [0, 3, 3, 3], [3, 3, 3, 3]]) && crwB 4 [0, 1, 0, 0]) then verd (natF (lsII [[0, 1, 2, 3], [1, 2, 3, 3], [2, 3, 3, 3], [3, 3, 3, 3]])) (natF (lsII [[0, 0, 0, 3], [0, 0, 3, 3], [0, 3, 3, 3], [3, 3, 3, 3]])) 4 (lsI [0, 0, 0, 1]) [0, 1, 0, 0] else -1) = 0 :=
  verdT [[0, 1, 0, 0]] [[0, 1, 0, 0]] (by decide +kernel) (by omega) (by decide +kernel) (by omega) (by decide +kernel) rA rB hA hB
theorem verd_three_02 (rA rB : Nat → Option Addr × Nat × Nat) (hA : ∀ i, i < 4 → (rA i).2.1 = 4) (hB : ∀ i, i < 4 → (rB i).2.1 = 4) : (if (rulB 4 (lsI [0, 0, 0, 1]) 4 rA (lsII [[0, 1, 2, 3], [1, 2, 3, 3], [2, 3, 3, 3], [3, 3, 3, 3]]) 4 rB (lsII [[0, 0, 0, 3], [0, 0, 3, 3], [0, 3, 3, 3], [3, 3, 3, 3]]) && crwB 4 [0, 2, 0, 0]) then verd (natF (lsII [[0, 1, 2, 3], [1, 2, 3, 3], [2, 3, 3, 3], [3, 3, 3, 3]])) (natF (lsII [[0, 0, 0, 3], [0, 0, 3, 3], [0, 3, 3, 3], [3, 3, 3, 3]])) 4 (lsI [0, 0, 0, 1]) [0, 2, 0, 0] else -1) = 0 :=
  verdT [[0, 2, 0, 0], [1, 0, 1, 0]] [[0, 2, 0, 0], [1, 0, 1, 0]] (by decide +kernel) (by omega) (by decide +kernel) (by omega) (by decide +kernel) rA rB hA hB
theorem verd_three_03 (rA rB : Nat → Option Addr × Nat × Nat) (hA : ∀ i, i < 4 → (rA i).2.1 = 4) (hB : ∀ i, i < 4 → (rB i).2.1 = 4) : (if (rulB 4 (lsI [0, 0, 0, 1]) 4 rA (lsII [[0, 1, 2, 3], [1, 2, 3, 3], [2, 3, 3, 3], [3, 3, 3, 3]]) 4 rB (lsII [[0, 0, 0, 3], [0, 0, 3, 3], [0, 3, 3, 3], [3, 3, 3, 3]]) && crwB 4 [0, 3, 0, 0]) then verd (natF (lsII [[0, 1, 2, 3], [1, 2, 3, 3], [2, 3, 3, 3], [3, 3, 3, 3]])) (natF (lsII [[0, 0, 0, 3], [0, 0, 3, 3], [0, 3, 3, 3], [3, 3, 3, 3]])) 4 (lsI [0, 0, 0, 1]) [0, 3, 0, 0] else -1) = 1 :=
  verdT [[0, 0, 0, 3], [1, 0, 0, 2], [1, 1, 1, 0], [0, 3, 0, 0]] [[0, 0, 0, 3]] (by decide +kernel) (by omega) (by decide +kernel) (by omega) (by decide +kernel) rA rB hA hB
theorem verd_three_10 (rA rB : Nat → Option Addr × Nat × Nat) (hA : ∀ i, i < 4 → (rA i).2.1 = 4) (hB : ∀ i, i < 4 → (rB i).2.1 = 4) : (if (rulB 4 (lsI [0, 0, 0, 1]) 4 rA (lsII [[0, 1, 2, 3], [1, 2, 3, 3], [2, 3, 3, 3], [3, 3, 3, 3]]) 4 rB (lsII [[0, 0, 0, 3], [0, 0, 3, 3], [0, 3, 3, 3], [3, 3, 3, 3]]) && crwB 4 [1, 0, 0, 0]) then verd (natF (lsII [[0, 1, 2, 3], [1, 2, 3, 3], [2, 3, 3, 3], [3, 3, 3, 3]])) (natF (lsII [[0, 0, 0, 3], [0, 0, 3, 3], [0, 3, 3, 3], [3, 3, 3, 3]])) 4 (lsI [0, 0, 0, 1]) [1, 0, 0, 0] else -1) = 0 :=
  verdT [[1, 0, 0, 0]] [[1, 0, 0, 0]] (by decide +kernel) (by omega) (by decide +kernel) (by omega) (by decide +kernel) rA rB hA hB
theorem verd_three_11 (rA rB : Nat → Option Addr × Nat × Nat) (hA : ∀ i, i < 4 → (rA i).2.1 = 4) (hB : ∀ i, i < 4 → (rB i).2.1 = 4) : (if (rulB 4 (lsI [0, 0, 0, 1]) 4 rA (lsII [[0, 1, 2, 3], [1, 2, 3, 3], [2, 3, 3, 3], [3, 3, 3, 3]]) 4 rB (lsII [[0, 0, 0, 3], [0, 0, 3, 3], [0, 3, 3, 3], [3, 3, 3, 3]]) && crwB 4 [1, 1, 0, 0]) then verd (natF (lsII [[0, 1, 2, 3], [1, 2, 3, 3], [2, 3, 3, 3], [3, 3, 3, 3]])) (natF (lsII [[0, 0, 0, 3], [0, 0, 3, 3], [0, 3, 3, 3], [3, 3, 3, 3]])) 4 (lsI [0, 0, 0, 1]) [1, 1, 0, 0] else -1) = 0 :=
  verdT [[1, 1, 0, 0]] [[1, 1, 0, 0]] (by decide +kernel) (by omega) (by decide +kernel) (by omega) (by decide +kernel) rA rB hA hB
theorem verd_three_12 (rA rB : Nat → Option Addr × Nat × Nat) (hA : ∀ i, i < 4 → (rA i).2.1 = 4) (hB : ∀ i, i < 4 → (rB i).2.1 = 4) : (if (rulB 4 (lsI [0, 0, 0, 1]) 4 rA (lsII [[0, 1, 2, 3], [1, 2, 3, 3], [2, 3, 3, 3], [3, 3, 3, 3]]) 4 rB (lsII [[0, 0, 0, 3], [0, 0, 3, 3], [0, 3, 3, 3], [3, 3, 3, 3]]) && crwB 4 [1, 2, 0, 0]) then verd (natF (lsII [[0, 1, 2, 3], [1, 2, 3, 3], [2, 3, 3, 3], [3, 3, 3, 3]])) (natF (lsII [[0, 0, 0, 3], [0, 0, 3, 3], [0, 3, 3, 3], [3, 3, 3, 3]])) 4 (lsI [0, 0, 0, 1]) [1, 2, 0, 0] else -1) = 0 :=
  verdT [[1, 2, 0, 0], [2, 0, 1, 0]] [[1, 2, 0, 0], [2, 0, 1, 0]] (by decide +kernel) (by omega) (by decide +kernel) (by omega) (by decide +kernel) rA rB hA hB
theorem verd_three_20 (rA rB : Nat → Option Addr × Nat × Nat) (hA : ∀ i, i < 4 → (rA i).2.1 = 4) (hB : ∀ i, i < 4 → (rB i).2.1 = 4) : (if (rulB 4 (lsI [0, 0, 0, 1]) 4 rA (lsII [[0, 1, 2, 3], [1, 2, 3, 3], [2, 3, 3, 3], [3, 3, 3, 3]]) 4 rB (lsII [[0, 0, 0, 3], [0, 0, 3, 3], [0, 3, 3, 3], [3, 3, 3, 3]]) && crwB 4 [2, 0, 0, 0]) then verd (natF (lsII [[0, 1, 2, 3], [1, 2, 3, 3], [2, 3, 3, 3], [3, 3, 3, 3]])) (natF (lsII [[0, 0, 0, 3], [0, 0, 3, 3], [0, 3, 3, 3], [3, 3, 3, 3]])) 4 (lsI [0, 0, 0, 1]) [2, 0, 0, 0] else -1) = 0 :=
  verdT [[2, 0, 0, 0]] [[2, 0, 0, 0]] (by decide +kernel) (by omega) (by decide +kernel) (by omega) (by decide +kernel) rA rB hA hB
theorem verd_three_21 (rA rB : Nat → Option Addr × Nat × Nat) (hA : ∀ i, i < 4 → (rA i).2.1 = 4) (hB : ∀ i, i < 4 → (rB i).2.1 = 4) : (if (rulB 4 (lsI [0, 0, 0, 1]) 4 rA (lsII [[0, 1, 2, 3], [1, 2, 3, 3], [2, 3, 3, 3], [3, 3, 3, 3]]) 4 rB (lsII [[0, 0, 0, 3], [0, 0, 3, 3], [0, 3, 3, 3], [3, 3, 3, 3]]) && crwB 4 [2, 1, 0, 0]) then verd (natF (lsII [[0, 1, 2, 3], [1, 2, 3, 3], [2, 3, 3, 3], [3, 3, 3, 3]])) (natF (lsII [[0, 0, 0, 3], [0, 0, 3, 3], [0, 3, 3, 3], [3, 3, 3, 3]])) 4 (lsI [0, 0, 0, 1]) [2, 1, 0, 0] else -1) = 0 :=
  verdT [[2, 1, 0, 0]] [[2, 1, 0, 0]] (by decide +kernel) (by omega) (by decide +kernel) (by omega) (by decide +kernel) rA rB hA hB
theorem verd_most_01 (rA rB : Nat → Option Addr × Nat × Nat) (hA : ∀ i, i < 4 → (rA i).2.1 = 4) (hB : ∀ i, i < 4 → (rB i).2.1 = 4) : (if (rulB 4 (lsI [0, 1, 0, 1]) 4 rA (lsII [[0, 2, 0, 0], [2, 1, 1, 1], [2, 3, 2, 2], [2, 3, 2, 3]]) 4 rB (lsII [[0, 2, 2, 2], [2, 1, 3, 3], [0, 1, 2, 2], [0, 1, 2, 3]]) && crwB 4 [0, 1, 0, 0]) then verd (natF (lsII [[0, 2, 0, 0], [2, 1, 1, 1], [2, 3, 2, 2], [2, 3, 2, 3]])) (natF (lsII [[0, 2, 2, 2], [2, 1, 3, 3], [0, 1, 2, 2], [0, 1, 2, 3]])) 4 (lsI [0, 1, 0, 1]) [0, 1, 0, 0] else -1) = 1 :=
  verdT [[0, 1, 0, 0]] [[0, 1, 0, 0]] (by decide +kernel) (by omega) (by decide +kernel) (by omega) (by decide +kernel) rA rB hA hB
theorem verd_most_02 (rA rB : Nat → Option Addr × Nat × Nat) (hA : ∀ i, i < 4 → (rA i).2.1 = 4) (hB : ∀ i, i < 4 → (rB i).2.1 = 4) : (if (rulB 4 (lsI [0, 1, 0, 1]) 4 rA (lsII [[0, 2, 0, 0], [2, 1, 1, 1], [2, 3, 2, 2], [2, 3, 2, 3]]) 4 rB (lsII [[0, 2, 2, 2], [2, 1, 3, 3], [0, 1, 2, 2], [0, 1, 2, 3]]) && crwB 4 [0, 2, 0, 0]) then verd (natF (lsII [[0, 2, 0, 0], [2, 1, 1, 1], [2, 3, 2, 2], [2, 3, 2, 3]])) (natF (lsII [[0, 2, 2, 2], [2, 1, 3, 3], [0, 1, 2, 2], [0, 1, 2, 3]])) 4 (lsI [0, 1, 0, 1]) [0, 2, 0, 0] else -1) = 1 :=
  verdT [[0, 2, 0, 0]] [[0, 2, 0, 0]] (by decide +kernel) (by omega) (by decide +kernel) (by omega) (by decide +kernel) rA rB hA hB
theorem verd_most_03 (rA rB : Nat → Option Addr × Nat × Nat) (hA : ∀ i, i < 4 → (rA i).2.1 = 4) (hB : ∀ i, i < 4 → (rB i).2.1 = 4) : (if (rulB 4 (lsI [0, 1, 0, 1]) 4 rA (lsII [[0, 2, 0, 0], [2, 1, 1, 1], [2, 3, 2, 2], [2, 3, 2, 3]]) 4 rB (lsII [[0, 2, 2, 2], [2, 1, 3, 3], [0, 1, 2, 2], [0, 1, 2, 3]]) && crwB 4 [0, 3, 0, 0]) then verd (natF (lsII [[0, 2, 0, 0], [2, 1, 1, 1], [2, 3, 2, 2], [2, 3, 2, 3]])) (natF (lsII [[0, 2, 2, 2], [2, 1, 3, 3], [0, 1, 2, 2], [0, 1, 2, 3]])) 4 (lsI [0, 1, 0, 1]) [0, 3, 0, 0] else -1) = 1 :=
  verdT [[0, 3, 0, 0]] [[0, 3, 0, 0]] (by decide +kernel) (by omega) (by decide +kernel) (by omega) (by decide +kernel) rA rB hA hB
theorem verd_most_10 (rA rB : Nat → Option Addr × Nat × Nat) (hA : ∀ i, i < 4 → (rA i).2.1 = 4) (hB : ∀ i, i < 4 → (rB i).2.1 = 4) : (if (rulB 4 (lsI [0, 1, 0, 1]) 4 rA (lsII [[0, 2, 0, 0], [2, 1, 1, 1], [2, 3, 2, 2], [2, 3, 2, 3]]) 4 rB (lsII [[0, 2, 2, 2], [2, 1, 3, 3], [0, 1, 2, 2], [0, 1, 2, 3]]) && crwB 4 [1, 0, 0, 0]) then verd (natF (lsII [[0, 2, 0, 0], [2, 1, 1, 1], [2, 3, 2, 2], [2, 3, 2, 3]])) (natF (lsII [[0, 2, 2, 2], [2, 1, 3, 3], [0, 1, 2, 2], [0, 1, 2, 3]])) 4 (lsI [0, 1, 0, 1]) [1, 0, 0, 0] else -1) = 0 :=
  verdT [[1, 0, 0, 0]] [[1, 0, 0, 0]] (by decide +kernel) (by omega) (by decide +kernel) (by omega) (by decide +kernel) rA rB hA hB
theorem verd_most_11 (rA rB : Nat → Option Addr × Nat × Nat) (hA : ∀ i, i < 4 → (rA i).2.1 = 4) (hB : ∀ i, i < 4 → (rB i).2.1 = 4) : (if (rulB 4 (lsI [0, 1, 0, 1]) 4 rA (lsII [[0, 2, 0, 0], [2, 1, 1, 1], [2, 3, 2, 2], [2, 3, 2, 3]]) 4 rB (lsII [[0, 2, 2, 2], [2, 1, 3, 3], [0, 1, 2, 2], [0, 1, 2, 3]]) && crwB 4 [1, 1, 0, 0]) then verd (natF (lsII [[0, 2, 0, 0], [2, 1, 1, 1], [2, 3, 2, 2], [2, 3, 2, 3]])) (natF (lsII [[0, 2, 2, 2], [2, 1, 3, 3], [0, 1, 2, 2], [0, 1, 2, 3]])) 4 (lsI [0, 1, 0, 1]) [1, 1, 0, 0] else -1) = 0 :=
  verdT [[0, 0, 2, 0], [1, 1, 0, 0]] [[0, 0, 2, 0]] (by decide +kernel) (by omega) (by decide +kernel) (by omega) (by decide +kernel) rA rB hA hB
theorem verd_most_12 (rA rB : Nat → Option Addr × Nat × Nat) (hA : ∀ i, i < 4 → (rA i).2.1 = 4) (hB : ∀ i, i < 4 → (rB i).2.1 = 4) : (if (rulB 4 (lsI [0, 1, 0, 1]) 4 rA (lsII [[0, 2, 0, 0], [2, 1, 1, 1], [2, 3, 2, 2], [2, 3, 2, 3]]) 4 rB (lsII [[0, 2, 2, 2], [2, 1, 3, 3], [0, 1, 2, 2], [0, 1, 2, 3]]) && crwB 4 [1, 2, 0, 0]) then verd (natF (lsII [[0, 2, 0, 0], [2, 1, 1, 1], [2, 3, 2, 2], [2, 3, 2, 3]])) (natF (lsII [[0, 2, 2, 2], [2, 1, 3, 3], [0, 1, 2, 2], [0, 1, 2, 3]])) 4 (lsI [0, 1, 0, 1]) [1, 2, 0, 0] else -1) = 1 :=
  verdT [[0, 1, 0, 2], [0, 1, 1, 1], [0, 1, 2, 0], [1, 2, 0, 0]] [[0, 1, 0, 2]] (by decide +kernel) (by omega) (by decide +kernel) (by omega) (by decide +kernel) rA rB hA hB
theorem verd_most_20 (rA rB : Nat → Option Addr × Nat × Nat) (hA : ∀ i, i < 4 → (rA i).2.1 = 4) (hB : ∀ i, i < 4 → (rB i).2.1 = 4) : (if (rulB 4 (lsI [0, 1, 0, 1]) 4 rA (lsII [[0, 2, 0, 0], [2, 1, 1, 1], [2, 3, 2, 2], [2, 3, 2, 3]]) 4 rB (lsII [[0, 2, 2, 2], [2, 1, 3, 3], [0, 1, 2, 2], [0, 1, 2, 3]]) && crwB 4 [2, 0, 0, 0]) then verd (natF (lsII [[0, 2, 0, 0], [2, 1, 1, 1], [2, 3, 2, 2], [2, 3, 2, 3]])) (natF (lsII [[0, 2, 2, 2], [2, 1, 3, 3], [0, 1, 2, 2], [0, 1, 2, 3]])) 4 (lsI [0, 1, 0, 1]) [2, 0, 0, 0] else -1) = 0 :=
  verdT [[2, 0, 0, 0]] [[2, 0, 0, 0]] (by decide +kernel) (by omega) (by decide +kernel) (by omega) (by decide +kernel) rA rB hA hB
theorem verd_most_21 (rA rB : Nat → Option Addr × Nat × Nat) (hA : ∀ i, i < 4 → (rA i).2.1 = 4) (hB : ∀ i, i < 4 → (rB i).2.1 = 4) : (if (rulB 4 (lsI [0, 1, 0, 1]) 4 rA (lsII [[0, 2, 0, 0], [2, 1, 1, 1], [2, 3, 2, 2], [2, 3, 2, 3]]) 4 rB (lsII [[0, 2, 2, 2], [2, 1, 3, 3], [0, 1, 2, 2], [0, 1, 2, 3]]) && crwB 4 [2, 1, 0, 0]) then verd (natF (lsII [[0, 2, 0, 0], [2, 1, 1, 1], [2, 3, 2, 2], [2, 3, 2, 3]])) (natF (lsII [[0, 2, 2, 2], [2, 1, 3, 3], [0, 1, 2, 2], [0, 1, 2, 3]])) 4 (lsI [0, 1, 0, 1]) [2, 1, 0, 0] else -1) = 0 :=
  verdT [[1, 0, 2, 0], [2, 1, 0, 0]] [[1, 0, 2, 0]] (by decide +kernel) (by omega) (by decide +kernel) (by omega) (by decide +kernel) rA rB hA hB
theorem verd_odd_01 (rA rB : Nat → Option Addr × Nat × Nat) (hA : ∀ i, i < 4 → (rA i).2.1 = 4) (hB : ∀ i, i < 4 → (rB i).2.1 = 4) : (if (rulB 4 (lsI [0, 1, 0, 1]) 4 rA (lsII [[0, 1, 0, 0], [1, 0, 1, 1], [2, 3, 2, 2], [2, 3, 3, 3]]) 4 rB (lsII [[2, 3, 2, 2], [3, 2, 3, 3], [0, 1, 2, 3], [0, 1, 2, 3]]) && crwB 4 [0, 1, 0, 0]) then verd (natF (lsII [[0, 1, 0, 0], [1, 0, 1, 1], [2, 3, 2, 2], [2, 3, 3, 3]])) (natF (lsII [[2, 3, 2, 2], [3, 2, 3, 3], [0, 1, 2, 3], [0, 1, 2, 3]])) 4 (lsI [0, 1, 0, 1]) [0, 1, 0, 0] else -1) = 1 :=
  verdT [[0, 1, 0, 0]] [[0, 1, 0, 0]] (by decide +kernel) (by omega) (by decide +kernel) (by omega) (by decide +kernel) rA rB hA hB
theorem verd_odd_02 (rA rB : Nat → Option Addr × Nat × Nat) (hA : ∀ i, i < 4 → (rA i).2.1 = 4) (hB : ∀ i, i < 4 → (rB i).2.1 = 4) : (if (rulB 4 (lsI [0, 1, 0, 1]) 4 rA (lsII [[0, 1, 0, 0], [1, 0, 1, 1], [2, 3, 2, 2], [2, 3, 3, 3]]) 4 rB (lsII [[2, 3, 2, 2], [3, 2, 3, 3], [0, 1, 2, 3], [0, 1, 2, 3]]) && crwB 4 [0, 2, 0, 0]) then verd (natF (lsII [[0, 1, 0, 0], [1, 0, 1, 1], [2, 3, 2, 2], [2, 3, 3, 3]])) (natF (lsII [[2, 3, 2, 2], [3, 2, 3, 3], [0, 1, 2, 3], [0, 1, 2, 3]])) 4 (lsI [0, 1, 0, 1]) [0, 2, 0, 0] else -1) = 0 :=
  verdT [[1, 0, 1, 0], [0, 2, 0, 0]] [[1, 0, 1, 0]] (by decide +kernel) (by omega) (by decide +kernel) (by omega) (by decide +kernel) rA rB hA hB
theorem verd_odd_03 (rA rB : Nat → Option Addr × Nat × Nat) (hA : ∀ i, i < 4 → (rA i).2.1 = 4) (hB : ∀ i, i < 4 → (rB i).2.1 = 4) : (if (rulB 4 (lsI [0, 1, 0, 1]) 4 rA (lsII [[0, 1, 0, 0], [1, 0, 1, 1], [2, 3, 2, 2], [2, 3, 3, 3]]) 4 rB (lsII [[2, 3, 2, 2], [3, 2, 3, 3], [0, 1, 2, 3], [0, 1, 2, 3]]) && crwB 4 [0, 3, 0, 0]) then verd (natF (lsII [[0, 1, 0, 0], [1, 0, 1, 1], [2, 3, 2, 2], [2, 3, 3, 3]])) (natF (lsII [[2, 3, 2, 2], [3, 2, 3, 3], [0, 1, 2, 3], [0, 1, 2, 3]])) 4 (lsI [0, 1, 0, 1]) [0, 3, 0, 0] else -1) = 1 :=
  verdT [[0, 1, 0, 2], [0, 1, 1, 1], [1, 1, 0, 1], [1, 1, 1, 0], [0, 3, 0, 0]] [[0, 1, 0, 2]] (by decide +kernel) (by omega) (by decide +kernel) (by omega) (by decide +kernel) rA rB hA hB
theorem verd_odd_10 (rA rB : Nat → Option Addr × Nat × Nat) (hA : ∀ i, i < 4 → (rA i).2.1 = 4) (hB : ∀ i, i < 4 → (rB i).2.1 = 4) : (if (rulB 4 (lsI [0, 1, 0, 1]) 4 rA (lsII [[0, 1, 0, 0], [1, 0, 1, 1], [2, 3, 2, 2], [2, 3, 3, 3]]) 4 rB (lsII [[2, 3, 2, 2], [3, 2, 3, 3], [0, 1, 2, 3], [0, 1, 2, 3]]) && crwB 4 [1, 0, 0, 0]) then verd (natF (lsII [[0, 1, 0, 0], [1, 0, 1, 1], [2, 3, 2, 2], [2, 3, 3, 3]])) (natF (lsII [[2, 3, 2, 2], [3, 2, 3, 3], [0, 1, 2, 3], [0, 1, 2, 3]])) 4 (lsI [0, 1, 0, 1]) [1, 0, 0, 0] else -1) = 0 :=
  verdT [[1, 0, 0, 0]] [[1, 0, 0, 0]] (by decide +kernel) (by omega) (by decide +kernel) (by omega) (by decide +kernel) rA rB hA hB
theorem verd_odd_11 (rA rB : Nat → Option Addr × Nat × Nat) (hA : ∀ i, i < 4 → (rA i).2.1 = 4) (hB : ∀ i, i < 4 → (rB i).2.1 = 4) : (if (rulB 4 (lsI [0, 1, 0, 1]) 4 rA (lsII [[0, 1, 0, 0], [1, 0, 1, 1], [2, 3, 2, 2], [2, 3, 3, 3]]) 4 rB (lsII [[2, 3, 2, 2], [3, 2, 3, 3], [0, 1, 2, 3], [0, 1, 2, 3]]) && crwB 4 [1, 1, 0, 0]) then verd (natF (lsII [[0, 1, 0, 0], [1, 0, 1, 1], [2, 3, 2, 2], [2, 3, 3, 3]])) (natF (lsII [[2, 3, 2, 2], [3, 2, 3, 3], [0, 1, 2, 3], [0, 1, 2, 3]])) 4 (lsI [0, 1, 0, 1]) [1, 1, 0, 0] else -1) = 1 :=
  verdT [[0, 1, 0, 1], [1, 1, 0, 0]] [[0, 1, 0, 1]] (by decide +kernel) (by omega) (by decide +kernel) (by omega) (by decide +kernel) rA rB hA hB
theorem verd_odd_12 (rA rB : Nat → Option Addr × Nat × Nat) (hA : ∀ i, i < 4 → (rA i).2.1 = 4) (hB : ∀ i, i < 4 → (rB i).2.1 = 4) : (if (rulB 4 (lsI [0, 1, 0, 1]) 4 rA (lsII [[0, 1, 0, 0], [1, 0, 1, 1], [2, 3, 2, 2], [2, 3, 3, 3]]) 4 rB (lsII [[2, 3, 2, 2], [3, 2, 3, 3], [0, 1, 2, 3], [0, 1, 2, 3]]) && crwB 4 [1, 2, 0, 0]) then verd (natF (lsII [[0, 1, 0, 0], [1, 0, 1, 1], [2, 3, 2, 2], [2, 3, 3, 3]])) (natF (lsII [[2, 3, 2, 2], [3, 2, 3, 3], [0, 1, 2, 3], [0, 1, 2, 3]])) 4 (lsI [0, 1, 0, 1]) [1, 2, 0, 0] else -1) = 0 :=
  verdT [[2, 0, 1, 0], [1, 0, 2, 0], [1, 2, 0, 0], [1, 0, 1, 1], [0, 2, 0, 1]] [[2, 0, 1, 0], [1, 0, 2, 0]] (by decide +kernel) (by omega) (by decide +kernel) (by omega) (by decide +kernel) rA rB hA hB
theorem verd_odd_20 (rA rB : Nat → Option Addr × Nat × Nat) (hA : ∀ i, i < 4 → (rA i).2.1 = 4) (hB : ∀ i, i < 4 → (rB i).2.1 = 4) : (if (rulB 4 (lsI [0, 1, 0, 1]) 4 rA (lsII [[0, 1, 0, 0], [1, 0, 1, 1], [2, 3, 2, 2], [2, 3, 3, 3]]) 4 rB (lsII [[2, 3, 2, 2], [3, 2, 3, 3], [0, 1, 2, 3], [0, 1, 2, 3]]) && crwB 4 [2, 0, 0, 0]) then verd (natF (lsII [[0, 1, 0, 0], [1, 0, 1, 1], [2, 3, 2, 2], [2, 3, 3, 3]])) (natF (lsII [[2, 3, 2, 2], [3, 2, 3, 3], [0, 1, 2, 3], [0, 1, 2, 3]])) 4 (lsI [0, 1, 0, 1]) [2, 0, 0, 0] else -1) = 0 :=
  verdT [[2, 0, 0, 0], [1, 0, 1, 0]] [[2, 0, 0, 0], [1, 0, 1, 0]] (by decide +kernel) (by omega) (by decide +kernel) (by omega) (by decide +kernel) rA rB hA hB
theorem verd_odd_21 (rA rB : Nat → Option Addr × Nat × Nat) (hA : ∀ i, i < 4 → (rA i).2.1 = 4) (hB : ∀ i, i < 4 → (rB i).2.1 = 4) : (if (rulB 4 (lsI [0, 1, 0, 1]) 4 rA (lsII [[0, 1, 0, 0], [1, 0, 1, 1], [2, 3, 2, 2], [2, 3, 3, 3]]) 4 rB (lsII [[2, 3, 2, 2], [3, 2, 3, 3], [0, 1, 2, 3], [0, 1, 2, 3]]) && crwB 4 [2, 1, 0, 0]) then verd (natF (lsII [[0, 1, 0, 0], [1, 0, 1, 1], [2, 3, 2, 2], [2, 3, 3, 3]])) (natF (lsII [[2, 3, 2, 2], [3, 2, 3, 3], [0, 1, 2, 3], [0, 1, 2, 3]])) 4 (lsI [0, 1, 0, 1]) [2, 1, 0, 0] else -1) = 1 :=
  verdT [[0, 1, 0, 2], [1, 1, 0, 1], [0, 1, 1, 1], [2, 1, 0, 0], [1, 1, 1, 0]] [[0, 1, 0, 2]] (by decide +kernel) (by omega) (by decide +kernel) (by omega) (by decide +kernel) rA rB hA hB
end Go.Proofs.Ytaejakejnllimaa
