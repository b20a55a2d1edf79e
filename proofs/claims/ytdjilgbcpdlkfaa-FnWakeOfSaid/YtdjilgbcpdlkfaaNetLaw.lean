/-
  Plain laws on nets for the drawn statements: distances go both ways, rings are valid and half as wide as long, a ring with the same marks looks the same everywhere. Condition: a valid net.
-/
import Derived.Test.YtdjilgbcpdlkfaaFlood
import Derived.Test.YtdjilgbcpdlkfaaClass
namespace Go.Proofs.Ytdjilgbcpdlkfaa
open Go.RowKit

section
variable {m : Nat} {L : Nat → Nat} {X : Nat → Nat → Int} {mm : Nat} {M : Nat → Int}
/-- From a neighbour it is at most one further. -/
theorem far_next (ok : NetOk m L X mm M) {v u : Nat} (hv : v < m) (hu : u < m) (h : Adj L (portT X) v u) : ∀ (d x : Nat), x < m → farF m L (portT X) u x = (d : Int) → farF m L (portT X) v x ≤ (d : Int) + 1 := by
  have Dv := far_dist m L (portT X) v
  have Du := far_dist m L (portT X) u
  intro d
  induction d with
  | zero =>
    intro x hx e
    rw [Du.zero x hx (by simpa using e)]
    have := (Dv.edge v u hv hu h (by rw [Dv.src]; exact Int.le_refl _)).2
    rw [Dv.src] at this
    simpa using this
  | succ d ih =>
    intro x hx e
    obtain ⟨y, hy, e1, a⟩ := Du.pred x hx (by omega)
    have h1 := ih y hy (by omega)
    have h2 := (Dv.edge y x hy hx a (net_far ok v hv y hy)).2
    omega
theorem far_symm_le (ok : NetOk m L X mm M) (s : Nat) (hs : s < m) : ∀ (d v : Nat), v < m → farF m L (portT X) s v = (d : Int) → farF m L (portT X) v s ≤ (d : Int) := by
  have D := far_dist m L (portT X) s
  intro d
  induction d with
  | zero =>
    intro v hv e
    rw [D.zero v hv (by simpa using e), D.src]
    exact Int.le_refl _
  | succ d ih =>
    intro v hv e
    obtain ⟨u, hu, e1, a⟩ := D.pred v hv (by omega)
    have h1 := ih u hu (by omega)
    have h0 := net_far ok u hu s hs
    obtain ⟨k, hk⟩ := Int.eq_ofNat_of_zero_le h0
    have := far_next ok hv hu (net_symm ok hu a) k s hs hk
    omega
theorem far_symm (ok : NetOk m L X mm M) (s v : Nat) (hs : s < m) (hv : v < m) : farF m L (portT X) s v = farF m L (portT X) v s := by
  obtain ⟨d, hd⟩ := Int.eq_ofNat_of_zero_le (net_far ok s hs v hv)
  obtain ⟨k, hk⟩ := Int.eq_ofNat_of_zero_le (net_far ok v hv s hs)
  have h1 := far_symm_le ok s hs d v hv hd
  have h2 := far_symm_le ok v hv k s hs hk
  omega
theorem far_zero (s v : Nat) (hv : v < m) : farF m L (portT X) s v = 0 ↔ v = s :=
  ⟨fun h => (far_dist m L (portT X) s).zero v hv h, fun h => by rw [h]; exact (far_dist m L (portT X) s).src⟩
theorem far_step (ok : NetOk m L X mm M) (s v p : Nat) (hs : s < m) (hv : v < m) (hp : p < L v) : -1 ≤ farF m L (portT X) s (portT X v p) - farF m L (portT X) s v ∧ farF m L (portT X) s (portT X v p) - farF m L (portT X) s v ≤ 1 := by
  have D := far_dist m L (portT X) s
  have hu := ok.node v p hv hp
  have h1 := (D.edge v _ hv hu ⟨p, hp, rfl⟩ (net_far ok s hs v hv)).2
  have h2 := (D.edge _ v hu hv (ok.back v p hv hp) (net_far ok s hs _ hu)).2
  omega
end

/-! ### rings -/
def ringX (m : Nat) (v p : Nat) : Int := if p = 0 then ((v + m - 1) % m : Nat) else ((v + 1) % m : Nat)
def ringD (m s v : Nat) : Nat := min ((v + m - s) % m) ((s + m - v) % m)
def allB (p : Nat → Bool) (n : Nat) : Bool := !anyB (fun i => !p i) n
theorem allB_at {p : Nat → Bool} {n : Nat} (h : allB p n = true) (i : Nat) (hi : i < n) : p i = true := by
  unfold allB at h
  rw [Bool.not_eq_true', anyB_false] at h
  simpa using h i hi
/-- Of each ring of 3 to 6 nodes. -/
theorem each_ring {p : Nat → Bool} (h : allB (fun k => p (k + 3)) 4 = true) (m : Nat) (h3 : 3 ≤ m) (h6 : m ≤ 6) : p m = true := by
  have := allB_at h (m - 3) (by omega)
  rwa [show m - 3 + 3 = m by omega] at this
def ringOk (m s : Nat) : Bool := ringD m s s == 0 && allB (fun x => !(ringD m s x == 0) || x == s) m && allB (fun x => ringD m s x == 0 || anyB (fun v => ringD m s v + 1 == ringD m s x && anyB (fun p => portT (ringX m) v p == x) 2) m) m && allB (fun v => allB (fun p => decide (ringD m s (portT (ringX m) v p) ≤ ringD m s v + 1)) 2) m
theorem ring_check : allB (fun k => allB (ringOk (k + 3)) (k + 3)) 4 = true := by decide +kernel
theorem ring_dist (m s : Nat) (h3 : 3 ≤ m) (h6 : m ≤ 6) (hs : s < m) : IsDist m (Adj (fun _ => 2) (portT (ringX m))) s (fun v => (ringD m s v : Int)) := by
  have hc := allB_at (each_ring (p := fun m => allB (ringOk m) m) ring_check m h3 h6) s hs
  unfold ringOk at hc
  simp only [Bool.and_eq_true] at hc
  obtain ⟨⟨⟨h1, h2⟩, h4⟩, h5⟩ := hc
  rw [beq_iff_eq] at h1
  refine ⟨fun x _ => by omega, by simp [h1], fun x hx e => ?_, fun x hx e => ?_, fun v u hv hu a _ => ?_⟩
  · have h := allB_at h2 x hx
    rw [show ringD m s x = 0 by omega] at h
    simpa using h
  · have h := allB_at h4 x hx
    rw [show (ringD m s x == 0) = false by simp; omega, Bool.false_or] at h
    simp only [anyB_iff, Bool.and_eq_true, beq_iff_eq] at h
    obtain ⟨v, hv, e1, p, hp, e2⟩ := h
    exact ⟨v, hv, by omega, p, hp, e2⟩
  · obtain ⟨p, hp, e⟩ := a
    have := of_decide_eq_true (allB_at (allB_at h5 v hv) p hp)
    rw [e] at this
    omega
theorem ring_far (m s v : Nat) (h3 : 3 ≤ m) (h6 : m ≤ 6) (hs : s < m) (hv : v < m) : farF m (fun _ => 2) (portT (ringX m)) s v = (ringD m s v : Int) :=
  dist_eq (far_dist m _ _ s) (ring_dist m s h3 h6 hs) v hv
theorem ring_ports : allB (fun k => !anyB (fun v => anyB (sbadB (k + 3) (ringX (k + 3)) v) 2) (k + 3) && !anyB (fun v => anyB (bbadB (fun _ => 2) (ringX (k + 3)) v) 2) (k + 3)) 4 = true := by decide +kernel
theorem ring_net (m : Nat) (M : Nat → Int) (h3 : 3 ≤ m) (h6 : m ≤ 6) : netB m (fun _ => 2) (ringX m) m M = !anyB (fun v => !inB (M v) 0 20) m := by
  have hc := each_ring (p := fun m => !anyB (fun v => anyB (sbadB m (ringX m) v) 2) m && !anyB (fun v => anyB (bbadB (fun _ => 2) (ringX m) v) 2) m) ring_ports m h3 h6
  simp only [Bool.and_eq_true, Bool.not_eq_true'] at hc
  obtain ⟨h1, h2⟩ := hc
  have h0 : inB m 1 6 = true := inB_mk (by omega) (by omega)
  have hf : anyB (fun v => decide (farF m (fun _ => 2) (portT (ringX m)) 0 v < 0)) m = false := (anyB_false _ _).2 fun v hv => by
    rw [ring_far m 0 v h3 h6 (by omega) hv]
    simp
  unfold netB
  rw [h0, hf, h1, h2]
  simp
theorem topF_congr {x y : Nat → Int} : ∀ k, (∀ i, i ≤ k → x i = y i) → topF x k = topF y k
  | 0, h => h 0 (Nat.le_refl _)
  | k + 1, h => by
    show max (topF x k) (x (k + 1)) = max (topF y k) (y (k + 1))
    rw [topF_congr k (fun i hi => h i (by omega)), h (k + 1) (Nat.le_refl _)]
theorem wmax_congr {m : Nat} {f g : Nat → Nat → Int} (h1 : 1 ≤ m) : ∀ k, k ≤ m → (∀ s v, s < m → v < m → f s v = g s v) → wmaxF m f k = wmaxF m g k
  | 0, _, _ => rfl
  | k + 1, hk, h => by
    show max (wmaxF m f k) (topF (f k) (m - 1)) = max (wmaxF m g k) (topF (g k) (m - 1))
    rw [wmax_congr h1 k (by omega) h, topF_congr (m - 1) (fun i hi => h k i (by omega) (by omega))]
theorem ring_wmax : allB (fun k => wmaxF (k + 3) (fun s v => (ringD (k + 3) s v : Int)) (k + 3) == (((k + 3) / 2 : Nat) : Int)) 4 = true := by decide +kernel
theorem ring_width (m : Nat) (M : Nat → Int) (h3 : 3 ≤ m) (h6 : m ≤ 6) (h : netB m (fun _ => 2) (ringX m) m M = true) : widthI m (fun _ => 2) (ringX m) m M = (m / 2 : Nat) := by
  unfold widthI
  rw [if_pos h, wmax_congr (by omega) m (Nat.le_refl _) (fun s v hs hv => ring_far m s v h3 h6 hs hv)]
  have hc := each_ring (p := fun m => wmaxF m (fun s v => (ringD m s v : Int)) m == ((m / 2 : Nat) : Int)) ring_wmax m h3 h6
  simpa using hc
/-! ### a ring with the same marks -/
theorem ring_bk : allB (fun k => allB (fun v => allB (fun p => decide (portT (ringX (k + 3)) v p < k + 3) && backF (fun _ => 2) (portT (ringX (k + 3))) v p == if p = 0 then 1 else 0) 2) (k + 3)) 4 = true := by decide +kernel
theorem ring_back (m v p : Nat) (h3 : 3 ≤ m) (h6 : m ≤ 6) (hv : v < m) (hp : p < 2) : portT (ringX m) v p < m ∧ backF (fun _ => 2) (portT (ringX m)) v p = if p = 0 then 1 else 0 := by
  have hc := allB_at (allB_at (each_ring (p := fun m => allB (fun v => allB (fun p => decide (portT (ringX m) v p < m) && backF (fun _ => 2) (portT (ringX m)) v p == if p = 0 then 1 else 0) 2) m) ring_bk m h3 h6) v hv) p hp
  simpa using hc
theorem ring_cls (m : Nat) (c : Int) (h3 : 3 ≤ m) (h6 : m ≤ 6) : ∀ r v, v < m → clsF (fun _ => 2) (portT (ringX m)) (fun _ => c) r v = 0
  | 0, v, _ => by
    have e : relF (fun _ => 2) (portT (ringX m)) (fun _ => c) 0 0 v = true := by simp [relF, marksB]
    by_cases h : v = 0
    · have := cls_le (L := fun _ => 2) (T := portT (ringX m)) (M := fun _ => c) 0 v
      omega
    · exact leastN_eq _ v 0 (by omega) (fun j hj => absurd hj (Nat.not_lt_zero _)) (fun _ => e)
  | r + 1, v, hv => by
    have ih := ring_cls m c h3 h6 r
    have e : relF (fun _ => 2) (portT (ringX m)) (fun _ => c) (r + 1) 0 v = true := by
      show alikeB (fun _ => 2) (portT (ringX m)) (clsF (fun _ => 2) (portT (ringX m)) (fun _ => c) r) 0 v = true
      rw [alike_iff]
      refine ⟨by rw [ih 0 (by omega), ih v hv], rfl, fun p hp => ?_⟩
      obtain ⟨h1, h2⟩ := ring_back m 0 p h3 h6 (by omega) hp
      obtain ⟨h4, h5⟩ := ring_back m v p h3 h6 hv hp
      rw [ih _ h1, ih _ h4, h2, h5]
      exact ⟨rfl, rfl⟩
    by_cases h : v = 0
    · have := cls_le (L := fun _ => 2) (T := portT (ringX m)) (M := fun _ => c) (r + 1) v
      omega
    · exact leastN_eq _ v 0 (by omega) (fun j hj => absurd hj (Nat.not_lt_zero _)) (fun _ => e)
end Go.Proofs.Ytdjilgbcpdlkfaa
