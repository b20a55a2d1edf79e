/-
  Plain laws on widths: the greatest distance is reached, and is less than the nodes. Condition: a valid net.
-/
import Derived.Test.YtdjilgbcpdlkfaaNetLaw
import Derived.Test.YtdjilgbcpdlkfaaExactSS
namespace Go.Proofs.Ytdjilgbcpdlkfaa
open Go.RowKit

theorem wmax_ge {m : Nat} (f : Nat → Nat → Int) (h1 : 1 ≤ m) : ∀ k s v, s < k → v < m → f s v ≤ wmaxF m f k
  | 0, _, _, hs, _ => absurd hs (Nat.not_lt_zero _)
  | k + 1, s, v, hs, hv => by
    show f s v ≤ max (wmaxF m f k) (topF (f k) (m - 1))
    by_cases e : s = k
    · subst e
      have := topF_ge (f s) (m - 1) v (by omega)
      omega
    · have := wmax_ge f h1 k s v (by omega) hv
      omega
theorem wmax_at {m : Nat} (f : Nat → Nat → Int) (h1 : 1 ≤ m) : ∀ k, wmaxF m f k = 0 ∨ ∃ s v, s < k ∧ v < m ∧ wmaxF m f k = f s v
  | 0 => .inl rfl
  | k + 1 => by
    show max (wmaxF m f k) (topF (f k) (m - 1)) = 0 ∨ ∃ s v, s < k + 1 ∧ v < m ∧ max (wmaxF m f k) (topF (f k) (m - 1)) = f s v
    obtain ⟨i, hi, e⟩ := topF_at (f k) (m - 1)
    by_cases hle : wmaxF m f k ≤ topF (f k) (m - 1)
    · exact .inr ⟨k, i, by omega, by omega, by rw [← e]; omega⟩
    · rcases wmax_at f h1 k with h | ⟨s, v, hs, hv, h⟩
      · exact .inl (by omega)
      · exact .inr ⟨s, v, by omega, hv, by omega⟩
theorem width_true {m : Nat} {L : Nat → Nat} {X : Nat → Nat → Int} {mm : Nat} {M : Nat → Int} (h : netB m L X mm M = true) :
    0 ≤ widthI m L X mm M ∧ widthI m L X mm M < m ∧ (∀ s v, s < m → v < m → farF m L (portT X) s v ≤ widthI m L X mm M) ∧ ∃ s v, s < m ∧ v < m ∧ farF m L (portT X) s v = widthI m L X mm M := by
  have ok := net_true h
  have h1 := ok.lo
  have e : widthI m L X mm M = wmaxF m (fun s => farF m L (portT X) s) m := by unfold widthI; rw [if_pos h]
  rw [e]
  have hat : ∃ s v, s < m ∧ v < m ∧ farF m L (portT X) s v = wmaxF m (fun s => farF m L (portT X) s) m := by
    rcases wmax_at (fun s => farF m L (portT X) s) h1 m with h | ⟨s, v, hs, hv, h⟩
    · exact ⟨0, 0, by omega, by omega, by rw [h]; exact (far_dist m L (portT X) 0).src⟩
    · exact ⟨s, v, hs, hv, h.symm⟩
  obtain ⟨s, v, hs, hv, hsv⟩ := hat
  have hl := dist_lt (far_dist m L (portT X) s).pred v hv
  have h0 := net_far ok s hs v hv
  exact ⟨by omega, by omega, fun s v hs hv => wmax_ge (fun s => farF m L (portT X) s) h1 m s v hs hv, s, v, hs, hv, hsv⟩
theorem GiveL.get {l : List Int} {m : Nat} {x : Nat → Int} {w : World} {e : Ending} {w' : World} (h : GiveL l w e w') (hl : l = il m x) (h1 : 1 ≤ m) :
    ∃ (g c : Nat), e = .returned (.slice (some ⟨g, 0, none⟩) m c) ∧ OwnInts w' w.heap.size (some ⟨g, 0, none⟩) m c (il m x) ∧ Keeps w w' := by
  subst hl
  obtain ⟨A, c, h2, h3, h4⟩ := h
  rw [il_len] at h2 h3
  obtain ⟨g, rfl⟩ := h3.at h1
  exact ⟨g, c, h2, h3, h4⟩
theorem fars_list {m : Nat} {L : Nat → Nat} {X : Nat → Nat → Int} {mm : Nat} {M : Nat → Int} (h : netB m L X mm M = true) (v : Nat) (hv : v < m) : farsL m L X mm M v = il m (farF m L (portT X) v) := by
  unfold farsL nodeB
  rw [h, inB_mk (show (0 : Int) ≤ (v : Int) by omega) (by omega)]
  rfl
theorem sum_le (L : Nat → Nat) : ∀ (n b : Nat), (∀ i, i < n → L i ≤ b) → sumTo L n ≤ n * b
  | 0, _, _ => by simp [sumTo]
  | n + 1, b, h => by
    have h1 := sum_le L n b (fun i hi => h i (by omega))
    have h2 := h n (by omega)
    show sumTo L n + L n ≤ (n + 1) * b
    rw [Nat.succ_mul]
    omega
/-- How many tell: all ports, less one for each node but the first one. -/
theorem tell_fin (L : Nat → Nat) (s m : Nat) (_ : m ≤ 100) (_ : ∀ v, v < m → L v ≤ 100) : True ∧ ∀ k, k ≤ m → tellF L s k = (sumTo L k : Nat) - (k : Int) + (if s < k then 1 else 0) := by
  refine ⟨trivial, fun k => ?_⟩
  induction k with
  | zero => intro _; rfl
  | succ k ih =>
    intro hk
    show tellF L s k + (L k : Int) - (if k = s then 0 else 1) = ((sumTo L k + L k : Nat) : Int) - ((k + 1 : Nat) : Int) + (if s < k + 1 then 1 else 0)
    rw [ih (by omega)]
    by_cases e : k = s
    · subst e
      rw [if_pos rfl, if_neg (Nat.lt_irrefl _), if_pos (by omega)]
      omega
    · rw [if_neg e]
      by_cases h : s < k
      · rw [if_pos h, if_pos (by omega)]; omega
      · rw [if_neg h, if_neg (by omega)]; omega
/-- In a valid net of more than one node each one has a port. -/
theorem sum_ge {m : Nat} {L : Nat → Nat} {X : Nat → Nat → Int} {mm : Nat} {M : Nat → Int} (ok : NetOk m L X mm M) : ∀ k, k ≤ m → k ≤ sumTo L k + 1
  | 0, _ => Nat.zero_le _
  | k + 1, hk => by
    have h := sum_ge ok k (by omega)
    show k + 1 ≤ sumTo L k + L k + 1
    by_cases e : k = 0
    · subst e; omega
    · have : 0 ≤ pickF (farF m L (portT X) 0) (portT X) k (L k) := (pick_iff ok 0 (by omega) k (by omega)).2 e
      have := pick_in (farF m L (portT X) 0) (portT X) k (L k)
      omega
end Go.Proofs.Ytdjilgbcpdlkfaa
