/-
  Plain laws on classes of nodes that look the same: least ones, refinement, when nothing changes any more, and that all classes are of the same size at the end. Condition: at least one node, ports lead to other nodes and back.
-/
import Derived.Test.YtpgipkcbdppplaaDist
namespace Go.Proofs.Ytpgipkcbdppplaa
open Go.RowKit

/-- The first k < n with p k, n if there is none. -/
def leastN (p : Nat → Bool) : Nat → Nat
  | 0 => 0
  | n + 1 => if leastN p n < n then leastN p n else if p n then n else n + 1
theorem leastN_le (p : Nat → Bool) : ∀ n, leastN p n ≤ n
  | 0 => Nat.le_refl _
  | n + 1 => by
    unfold leastN
    split
    · have := leastN_le p n; omega
    · split <;> omega
theorem leastN_before (p : Nat → Bool) : ∀ n k, k < leastN p n → p k = false
  | 0, k, h => absurd h (Nat.not_lt_zero _)
  | n + 1, k, h => by
    unfold leastN at h
    have hl := leastN_le p n
    split at h
    · exact leastN_before p n k h
    · split at h
      · exact leastN_before p n k (by omega)
      · rename_i h1 h2
        by_cases e : k = n
        · subst e; simpa using h2
        · exact leastN_before p n k (by omega)
theorem leastN_at (p : Nat → Bool) : ∀ n, leastN p n < n → p (leastN p n) = true
  | 0, h => absurd h (Nat.not_lt_zero _)
  | n + 1, h => by
    unfold leastN at h ⊢
    have hl := leastN_le p n
    split
    · rename_i h1
      exact leastN_at p n h1
    · rename_i h1
      rw [if_neg h1] at h
      split
      · assumption
      · rename_i h2
        rw [if_neg h2] at h
        omega
theorem leastN_eq (p : Nat → Bool) (n k : Nat) (hk : k ≤ n) (hb : ∀ j, j < k → p j = false) (ha : k < n → p k = true) : leastN p n = k := by
  have h1 := leastN_le p n
  by_cases h : leastN p n < k
  · have := leastN_at p n (by omega)
    rw [hb _ h] at this
    cases this
  · by_cases h' : k < leastN p n
    · have := leastN_before p n k h'
      rw [ha (by omega)] at this
      cases this
    · omega
theorem leastN_congr {p q : Nat → Bool} (n : Nat) (h : ∀ k, k < n → p k = q k) : leastN p n = leastN q n := by
  refine leastN_eq p n _ (leastN_le q n) (fun j hj => ?_) (fun hl => ?_)
  · rw [h j (by have := leastN_le q n; omega)]
    exact leastN_before q n j hj
  · rw [h _ hl]
    exact leastN_at q n hl

/-! ### least ones of an equivalence -/
structure Equi (m : Nat) (R : Nat → Nat → Bool) : Prop where
  refl : ∀ v, v < m → R v v = true
  symm : ∀ u v, u < m → v < m → R u v = true → R v u = true
  trans : ∀ u v x, u < m → v < m → x < m → R u v = true → R v x = true → R u x = true
/-- The least node that is like v. -/
def repF (R : Nat → Nat → Bool) (v : Nat) : Nat := leastN (fun u => R u v) v
theorem rep_le (R : Nat → Nat → Bool) (v : Nat) : repF R v ≤ v := leastN_le _ _
theorem rep_rel {m : Nat} {R : Nat → Nat → Bool} (E : Equi m R) (v : Nat) (hv : v < m) : R (repF R v) v = true := by
  by_cases h : repF R v < v
  · exact leastN_at _ v h
  · have := rep_le R v
    rw [show repF R v = v by omega]
    exact E.refl v hv
theorem rep_eq {m : Nat} {R : Nat → Nat → Bool} (E : Equi m R) (u v : Nat) (hu : u < m) (hv : v < m) : repF R u = repF R v ↔ R u v = true := by
  have lu := rep_le R u
  have lv := rep_le R v
  constructor
  · intro e
    have h1 := rep_rel E u hu
    have h2 := rep_rel E v hv
    rw [e] at h1
    exact E.trans _ _ _ hu (by omega) hv (E.symm _ _ (by omega) hu h1) h2
  · intro h
    have key : ∀ a b, a < m → b < m → R a b = true → repF R a ≤ repF R b := fun a b ha hb hab => by
      have la := rep_le R a
      have lb := rep_le R b
      by_cases hlt : repF R b < repF R a
      · have h1 := rep_rel E b hb
        have h2 := E.trans _ _ _ (by omega) hb ha h1 (E.symm a b ha hb hab)
        have h3 := leastN_before (fun u => R u a) a _ hlt
        (try dsimp only at h3)
        rw [h2] at h3
        cases h3
      · omega
    have h1 := key u v hu hv h
    have h2 := key v u hv hu (E.symm u v hu hv h)
    omega
theorem rep_rep {m : Nat} {R : Nat → Nat → Bool} (E : Equi m R) (v : Nat) (hv : v < m) : repF R (repF R v) = repF R v := by
  have := rep_le R v
  exact (rep_eq E _ _ (by omega) hv).2 (rep_rel E v hv)

/-! ### classes -/
/-- The port by which the p-th port of v leads back. -/
def backF (L : Nat → Nat) (T : Nat → Nat → Nat) (v p : Nat) : Int := idxB (fun q => T (T v p) q == v) (L (T v p))
/-- Do the p-th ports of u and v look different? -/
def linkBad (L : Nat → Nat) (T : Nat → Nat → Nat) (c : Nat → Nat) (u v p : Nat) : Bool := !(c (T u p) == c (T v p)) || !(backF L T u p == backF L T v p)
def alikeB (L : Nat → Nat) (T : Nat → Nat → Nat) (c : Nat → Nat) (u v : Nat) : Bool := (c u == c v) && (L u == L v) && !anyB (linkBad L T c u v) (L v)
def marksB (M : Nat → Int) (u v : Nat) : Bool := M u == M v
/-- Which relation gives the classes after r rounds? -/
def relF (L : Nat → Nat) (T : Nat → Nat → Nat) (M : Nat → Int) : Nat → Nat → Nat → Bool
  | 0 => marksB M
  | r + 1 => alikeB L T (repF (relF L T M r))
def clsF (L : Nat → Nat) (T : Nat → Nat → Nat) (M : Nat → Int) (r : Nat) : Nat → Nat := repF (relF L T M r)
theorem alike_iff (L : Nat → Nat) (T : Nat → Nat → Nat) (c : Nat → Nat) (u v : Nat) : alikeB L T c u v = true ↔ c u = c v ∧ L u = L v ∧ ∀ p, p < L v → c (T u p) = c (T v p) ∧ backF L T u p = backF L T v p := by
  unfold alikeB
  rw [Bool.and_eq_true, Bool.and_eq_true, Bool.not_eq_true', anyB_false, beq_iff_eq, beq_iff_eq, and_assoc]
  refine and_congr Iff.rfl (and_congr Iff.rfl (forall_congr' fun p => forall_congr' fun _ => ?_))
  unfold linkBad
  simp
theorem alike_equi (m : Nat) (L : Nat → Nat) (T : Nat → Nat → Nat) (c : Nat → Nat) : Equi m (alikeB L T c) := by
  refine ⟨fun v _ => ?_, fun u v _ _ h => ?_, fun u v x _ _ _ h k => ?_⟩
  · rw [alike_iff]; exact ⟨rfl, rfl, fun _ _ => ⟨rfl, rfl⟩⟩
  · rw [alike_iff] at h ⊢
    obtain ⟨h1, h2, h3⟩ := h
    exact ⟨h1.symm, h2.symm, fun p hp => ⟨(h3 p (by omega)).1.symm, (h3 p (by omega)).2.symm⟩⟩
  · rw [alike_iff] at h k ⊢
    obtain ⟨h1, h2, h3⟩ := h
    obtain ⟨k1, k2, k3⟩ := k
    exact ⟨h1.trans k1, h2.trans k2, fun p hp => ⟨(h3 p (by omega)).1.trans (k3 p hp).1, (h3 p (by omega)).2.trans (k3 p hp).2⟩⟩
theorem rel_equi (m : Nat) (L : Nat → Nat) (T : Nat → Nat → Nat) (M : Nat → Int) : ∀ r, Equi m (relF L T M r)
  | 0 => ⟨fun v _ => by simp [relF, marksB], fun u v _ _ h => by simp [relF, marksB] at h ⊢; exact h.symm, fun u v x _ _ _ h k => by simp [relF, marksB] at h k ⊢; exact h.trans k⟩
  | r + 1 => alike_equi m L T _
section
variable {m : Nat} {L : Nat → Nat} {T : Nat → Nat → Nat} {M : Nat → Int}
theorem cls_le (r v : Nat) : clsF L T M r v ≤ v := rep_le _ _
theorem cls_eq (r u v : Nat) : clsF L T M r u = clsF L T M r v ↔ relF L T M r u v = true := by
  exact rep_eq (rel_equi (max u v + 1) L T M r) u v (by omega) (by omega)
theorem cls_cls (r v : Nat) : clsF L T M r (clsF L T M r v) = clsF L T M r v := rep_rep (rel_equi (v + 1) L T M r) v (by omega)
theorem cls_finer (r u v : Nat) (h : clsF L T M (r + 1) u = clsF L T M (r + 1) v) : clsF L T M r u = clsF L T M r v := by
  rw [cls_eq] at h
  exact ((alike_iff L T _ u v).1 h).1
theorem cls_finer' (r u v : Nat) : ∀ k, clsF L T M (r + k) u = clsF L T M (r + k) v → clsF L T M r u = clsF L T M r v
  | 0, h => h
  | k + 1, h => cls_finer' r u v k (cls_finer (r + k) u v h)
theorem cls_down (r v k : Nat) : clsF L T M r (clsF L T M (r + k) v) = clsF L T M r v := cls_finer' r _ _ k (cls_cls (r + k) v)
/-- The round behind looks at nodes alone. -/
theorem cls_step_congr (hT : ∀ v p, v < m → p < L v → T v p < m) {r s : Nat} (h : ∀ v, v < m → clsF L T M r v = clsF L T M s v) (v : Nat) (hv : v < m) : clsF L T M (r + 1) v = clsF L T M (s + 1) v := by
  refine leastN_congr v fun u hu => ?_
  rw [Bool.eq_iff_iff]
  show alikeB L T (clsF L T M r) u v = true ↔ alikeB L T (clsF L T M s) u v = true
  rw [alike_iff, alike_iff, h u (by omega), h v hv]
  refine and_congr Iff.rfl ?_
  constructor
  · rintro ⟨h1, h2⟩
    exact ⟨h1, fun p hp => by rw [← h _ (hT u p (by omega) (by omega)), ← h _ (hT v p hv hp)]; exact h2 p hp⟩
  · rintro ⟨h1, h2⟩
    exact ⟨h1, fun p hp => by rw [h _ (hT u p (by omega) (by omega)), h _ (hT v p hv hp)]; exact h2 p hp⟩
theorem cls_stays (hT : ∀ v p, v < m → p < L v → T v p < m) {r : Nat} (h : ∀ v, v < m → clsF L T M r v = clsF L T M (r + 1) v) : ∀ k v, v < m → clsF L T M (r + k) v = clsF L T M r v
  | 0, _, _ => rfl
  | k + 1, v, hv => by
    have h1 := cls_step_congr hT (r := r + k) (s := r) (cls_stays hT h k) v hv
    rw [← Nat.add_assoc, h1]
    exact (h v hv).symm

/-! ### how many classes -/
/-- How many of the first n have p? -/
def cntB (p : Nat → Bool) : Nat → Nat
  | 0 => 0
  | n + 1 => cntB p n + (if p n then 1 else 0)
theorem cntB_le (p : Nat → Bool) : ∀ n, cntB p n ≤ n
  | 0 => Nat.le_refl _
  | n + 1 => by unfold cntB; have := cntB_le p n; split <;> omega
theorem cntB_mono (p q : Nat → Bool) : ∀ n, (∀ k, k < n → p k = true → q k = true) → cntB p n ≤ cntB q n
  | 0, _ => Nat.le_refl _
  | n + 1, h => by
    unfold cntB
    have h1 := cntB_mono p q n (fun k hk => h k (by omega))
    have h2 := h n (by omega)
    by_cases e : p n = true
    · rw [if_pos e, if_pos (h2 e)]; omega
    · rw [if_neg e]; omega
theorem cntB_same (p q : Nat → Bool) : ∀ n, (∀ k, k < n → p k = true → q k = true) → cntB p n = cntB q n → ∀ k, k < n → q k = true → p k = true
  | 0, _, _, k, hk, _ => absurd hk (Nat.not_lt_zero _)
  | n + 1, h, e, k, hk, hq => by
    unfold cntB at e
    have h1 := cntB_mono p q n (fun k hk => h k (by omega))
    have h2 := h n (by omega)
    by_cases ep : p n = true
    · rw [if_pos ep, if_pos (h2 ep)] at e
      by_cases ek : k = n
      · rw [ek]; exact ep
      · exact cntB_same p q n (fun k hk => h k (by omega)) (by omega) k (by omega) hq
    · rw [if_neg ep] at e
      by_cases eq : q n = true
      · rw [if_pos eq] at e; omega
      · rw [if_neg eq] at e
        by_cases ek : k = n
        · rw [ek] at hq; exact absurd hq eq
        · exact cntB_same p q n (fun k hk => h k (by omega)) (by omega) k (by omega) hq
theorem cntB_congr {p q : Nat → Bool} (n : Nat) (h : ∀ k, k < n → p k = q k) : cntB p n = cntB q n :=
  Nat.le_antisymm (cntB_mono p q n fun k hk e => by rw [← h k hk]; exact e) (cntB_mono q p n fun k hk e => by rw [h k hk]; exact e)
theorem cntB_step (p : Nat → Bool) (n k : Nat) (h : k < n) (hp : p k = true) : cntB p k < cntB p n := by
  induction n with
  | zero => omega
  | succ n ih =>
    show cntB p k < cntB p n + (if p n then 1 else 0)
    by_cases e : k = n
    · subst e; rw [if_pos hp]; omega
    · have := ih (by omega)
      omega
theorem cntB_inj (p : Nat → Bool) (a b : Nat) (ha : p a = true) (hb : p b = true) (e : cntB p a = cntB p b) : a = b := by
  by_cases h1 : a < b
  · have := cntB_step p b a h1 ha; omega
  · by_cases h2 : b < a
    · have := cntB_step p a b h2 hb; omega
    · omega
theorem cntB_nth (p : Nat → Bool) : ∀ n i, i < cntB p n → ∃ k, k < n ∧ p k = true ∧ cntB p k = i
  | 0, i, h => absurd h (Nat.not_lt_zero _)
  | n + 1, i, h => by
    by_cases e : i < cntB p n
    · obtain ⟨k, h1, h2, h3⟩ := cntB_nth p n i e
      exact ⟨k, by omega, h2, h3⟩
    · unfold cntB at h
      by_cases ep : p n = true
      · rw [if_pos ep] at h
        exact ⟨n, by omega, ep, by omega⟩
      · rw [if_neg ep] at h; omega
theorem cntB_pos (p : Nat → Bool) (n : Nat) : 0 < cntB p n ↔ ∃ k, k < n ∧ p k = true := by
  constructor
  · intro h
    obtain ⟨k, h1, h2, _⟩ := cntB_nth p n 0 h
    exact ⟨k, h1, h2⟩
  · rintro ⟨k, h1, h2⟩
    have := cntB_step p n k h1 h2
    omega
/-- What goes one by one from p's to q's: there are at least as many. -/
theorem cntB_into (p q : Nat → Bool) (n : Nat) (f : Nat → Nat) (hf : ∀ k, k < n → p k = true → f k < n ∧ q (f k) = true) (inj : ∀ a b, a < n → b < n → p a = true → p b = true → f a = f b → a = b) : cntB p n ≤ cntB q n := by
  obtain ⟨e, he⟩ := Deep.choose_lt (n := cntB p n) (p := fun i k => k < n ∧ p k = true ∧ cntB p k = i) (fun i hi => cntB_nth p n i hi)
  refine pigeon (cntB q n) (cntB p n) (fun i => cntB q (f (e i))) (fun i hi => ?_) (fun i j hi hj h => ?_)
  · obtain ⟨h1, h2, _⟩ := he i hi
    obtain ⟨h3, h4⟩ := hf _ h1 h2
    exact cntB_step q n _ h3 h4
  · obtain ⟨h1, h2, h3⟩ := he i hi
    obtain ⟨k1, k2, k3⟩ := he j hj
    have := inj _ _ h1 k1 h2 k2 (cntB_inj q _ _ (hf _ h1 h2).2 (hf _ k1 k2).2 h)
    rw [← h3, ← k3, this]
def kindsN (f : Nat → Nat) (m : Nat) : Nat := cntB (fun v => f v == v) m
theorem kinds_mono (r m : Nat) : ∀ k, k < m → (clsF L T M r k == k) = true → (clsF L T M (r + 1) k == k) = true := fun v _ h => by
  rw [beq_iff_eq] at h ⊢
  have h1 := cls_down (L := L) (T := T) (M := M) r v 1
  have h2 := cls_le (L := L) (T := T) (M := M) (r + 1) v
  have h3 := cls_le (L := L) (T := T) (M := M) r (clsF L T M (r + 1) v)
  omega
theorem kinds_le (r m : Nat) : kindsN (clsF L T M r) m ≤ kindsN (clsF L T M (r + 1)) m := cntB_mono _ _ m (kinds_mono r m)
theorem kinds_eq (r m : Nat) (h : kindsN (clsF L T M r) m = kindsN (clsF L T M (r + 1)) m) (v : Nat) (hv : v < m) : clsF L T M r v = clsF L T M (r + 1) v := by
  have h1 := cls_le (L := L) (T := T) (M := M) (r + 1) v
  have h2 := cntB_same _ _ m (kinds_mono r m) h (clsF L T M (r + 1) v) (by omega) (by rw [beq_iff_eq]; exact cls_cls _ _)
  rw [beq_iff_eq, cls_down r v 1] at h2
  exact h2
theorem kinds_lt (r m : Nat) : kindsN (clsF L T M r) m < kindsN (clsF L T M (r + 1)) m ↔ ∃ v, v < m ∧ clsF L T M r v ≠ clsF L T M (r + 1) v := by
  have h := kinds_le (L := L) (T := T) (M := M) r m
  constructor
  · intro hlt
    apply Classical.byContradiction
    intro hn
    have : kindsN (clsF L T M r) m = kindsN (clsF L T M (r + 1)) m := cntB_congr m fun k hk => by
      have : clsF L T M r k = clsF L T M (r + 1) k := Classical.byContradiction fun e => hn ⟨k, hk, e⟩
      rw [this]
    omega
  · rintro ⟨v, hv, e⟩
    have : kindsN (clsF L T M r) m ≠ kindsN (clsF L T M (r + 1)) m := fun h' => e (kinds_eq r m h' v hv)
    omega
/-- As long as it goes on, there are more classes than rounds. -/
theorem kinds_grow (h1 : 1 ≤ m) : ∀ r, (∀ k, k < r → kindsN (clsF L T M k) m < kindsN (clsF L T M (k + 1)) m) → r + 1 ≤ kindsN (clsF L T M r) m
  | 0, _ => by
    have : cntB (fun v => clsF L T M 0 v == v) 0 < cntB (fun v => clsF L T M 0 v == v) m := cntB_step _ m 0 h1 (by have := cls_le (L := L) (T := T) (M := M) 0 0; simp; omega)
    unfold kindsN
    omega
  | r + 1, h => by
    have := kinds_grow h1 r (fun k hk => h k (by omega))
    have := h r (by omega)
    omega
/-- The round from which on nothing changes, at most f more. -/
def settleF (L : Nat → Nat) (T : Nat → Nat → Nat) (M : Nat → Int) (m : Nat) : Nat := leastN (fun r => !decide (kindsN (clsF L T M r) m < kindsN (clsF L T M (r + 1)) m)) m
theorem settle_lt (h1 : 1 ≤ m) : settleF L T M m < m := by
  have h2 := leastN_le (fun r => !decide (kindsN (clsF L T M r) m < kindsN (clsF L T M (r + 1)) m)) m
  by_cases h : settleF L T M m < m
  · exact h
  · have h3 : ∀ k, k < m → kindsN (clsF L T M k) m < kindsN (clsF L T M (k + 1)) m := fun k hk => by
      have := leastN_before (fun r => !decide (kindsN (clsF L T M r) m < kindsN (clsF L T M (r + 1)) m)) m k (by unfold settleF at h; omega)
      simpa using this
    have h4 := kinds_grow h1 m h3
    have h5 : kindsN (clsF L T M m) m ≤ m := cntB_le _ _
    omega
theorem settle_before {k : Nat} (h : k < settleF L T M m) : kindsN (clsF L T M k) m < kindsN (clsF L T M (k + 1)) m := by
  have := leastN_before (fun r => !decide (kindsN (clsF L T M r) m < kindsN (clsF L T M (r + 1)) m)) m k h
  simpa using this
theorem settle_at (h1 : 1 ≤ m) : ∀ v, v < m → clsF L T M (settleF L T M m) v = clsF L T M (settleF L T M m + 1) v := by
  have := leastN_at (fun r => !decide (kindsN (clsF L T M r) m < kindsN (clsF L T M (r + 1)) m)) m (settle_lt h1)
  have h2 := kinds_le (L := L) (T := T) (M := M) (settleF L T M m) m
  have h3 : ¬ kindsN (clsF L T M (settleF L T M m)) m < kindsN (clsF L T M (settleF L T M m + 1)) m := by
    unfold settleF
    simpa using this
  exact kinds_eq _ m (by omega)
theorem settle_stays (hT : ∀ v p, v < m → p < L v → T v p < m) (h1 : 1 ≤ m) (r : Nat) (hr : settleF L T M m ≤ r) (v : Nat) (hv : v < m) : clsF L T M r v = clsF L T M (settleF L T M m) v := by
  have := cls_stays hT (settle_at (L := L) (T := T) (M := M) h1) (r - settleF L T M m) v hv
  rwa [show settleF L T M m + (r - settleF L T M m) = r by omega] at this

/-! ### all classes are of the same size at the end -/
theorem idxB_spec (p : Nat → Bool) (n : Nat) (h : ∃ k, k < n ∧ p k = true) : ∃ k : Nat, idxB p n = k ∧ k < n ∧ p k = true := by
  unfold idxB
  split
  · rename_i k hk
    rw [List.find?_range_eq_some] at hk
    exact ⟨k, rfl, by simpa using hk.2.1, hk.1⟩
  · rename_i hk
    rw [List.find?_range_eq_none] at hk
    obtain ⟨k, h1, h2⟩ := h
    have := hk k h1
    simp [h2] at this
theorem size_step (hT : ∀ v p, v < m → p < L v → T v p < m) (hB : ∀ v p, v < m → p < L v → Adj L T (T v p) v) (r : Nat) (hs : ∀ v, v < m → clsF L T M r v = clsF L T M (r + 1) v) (a p : Nat) (ha : a < m) (hp : p < L a) :
    cntB (fun x => clsF L T M r x == clsF L T M r a) m ≤ cntB (fun x => clsF L T M r x == clsF L T M r (T a p)) m := by
  have key : ∀ x, x < m → clsF L T M r x = clsF L T M r a → L x = L a ∧ ∀ p, p < L a → clsF L T M r (T x p) = clsF L T M r (T a p) ∧ backF L T x p = backF L T a p := fun x hx e => by
    rw [hs x hx, hs a ha, cls_eq] at e
    exact ((alike_iff L T _ x a).1 e).2
  refine cntB_into _ _ m (fun x => T x p) (fun x hx h => ?_) (fun x y hx hy h1 h2 e => ?_)
  · rw [beq_iff_eq] at h
    obtain ⟨h1, h2⟩ := key x hx h
    exact ⟨hT x p hx (by omega), by rw [beq_iff_eq]; exact (h2 p hp).1⟩
  · rw [beq_iff_eq] at h1 h2
    obtain ⟨k1, k2⟩ := key x hx h1
    obtain ⟨k3, k4⟩ := key y hy h2
    have bx := (k2 p hp).2
    rw [← (k4 p hp).2] at bx
    obtain ⟨q1, q2, q3⟩ := hB x p hx (by omega)
    obtain ⟨q1', q2', q3'⟩ := hB y p hy (by omega)
    obtain ⟨i, i1, i2, i3⟩ := idxB_spec (fun q => T (T x p) q == x) (L (T x p)) ⟨q1, q2, by simpa using q3⟩
    obtain ⟨j, j1, j2, j3⟩ := idxB_spec (fun q => T (T y p) q == y) (L (T y p)) ⟨q1', q2', by simpa using q3'⟩
    unfold backF at bx
    rw [i1, j1] at bx
    obtain rfl : i = j := by omega
    (try dsimp only at e)
    rw [beq_iff_eq] at i3 j3
    rw [e] at i3
    exact i3.symm.trans j3
theorem size_all (hT : ∀ v p, v < m → p < L v → T v p < m) (hB : ∀ v p, v < m → p < L v → Adj L T (T v p) v) (r : Nat) (hs : ∀ v, v < m → clsF L T M r v = clsF L T M (r + 1) v) :
    ∀ (d : Nat) (v : Nat), v < m → farF m L T 0 v = (d : Int) → cntB (fun x => clsF L T M r x == clsF L T M r v) m = cntB (fun x => clsF L T M r x == clsF L T M r 0) m := by
  have D := far_dist m L T 0
  intro d
  induction d with
  | zero =>
    intro v hv e
    rw [D.zero v hv (by simpa using e)]
  | succ d ih =>
    intro v hv e
    obtain ⟨u, hu, e1, p, hp, e2⟩ := D.pred v hv (by omega)
    rw [← ih u hu (by omega)]
    obtain ⟨q, hq, e3⟩ := hB u p hu hp
    rw [e2] at hq e3
    have s1 := size_step (M := M) hT hB r hs u p hu hp
    have s2 := size_step (M := M) hT hB r hs v q hv hq
    rw [e2] at s1
    rw [e3] at s2
    omega
end
end Go.Proofs.Ytpgipkcbdppplaa
