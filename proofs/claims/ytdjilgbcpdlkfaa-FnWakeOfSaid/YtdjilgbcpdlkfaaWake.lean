/-
  Plain laws on word that is told: which sets of nodes there may be behind a round, in how many rounds all have it, and bounds on that number. Condition: ports lead to nodes and back, and all nodes are reached.
-/
import Derived.Test.YtdjilgbcpdlkfaaClass
namespace Go.Proofs.Ytdjilgbcpdlkfaa
open Go.RowKit

/-- The sets behind a round: the last k of m nodes are still to be asked, those in a had word ahead of it, those in x have it now. -/
def tellL (L : Nat → Nat) (T : Nat → Nat → Nat) (m a : Nat) : Nat → Nat → List Nat
  | 0, x => [x]
  | k + 1, x => if a.testBit (m - (k + 1)) then tellL L T m a k x ++ (List.range (L (m - (k + 1)))).flatMap (fun p => if x.testBit (T (m - (k + 1)) p) then [] else tellL L T m a k (x ||| 2 ^ T (m - (k + 1)) p)) else tellL L T m a k x
theorem tell_skip (L : Nat → Nat) (T : Nat → Nat → Nat) (m a k x : Nat) (h : a.testBit (m - (k + 1)) = false) : tellL L T m a (k + 1) x = tellL L T m a k x := by
  conv => lhs; unfold tellL
  rw [if_neg (by simp [h])]
theorem tell_ask (L : Nat → Nat) (T : Nat → Nat → Nat) (m a k x : Nat) (h : a.testBit (m - (k + 1)) = true) : tellL L T m a (k + 1) x = tellL L T m a k x ++ (List.range (L (m - (k + 1)))).flatMap (fun p => if x.testBit (T (m - (k + 1)) p) then [] else tellL L T m a k (x ||| 2 ^ T (m - (k + 1)) p)) := by
  conv => lhs; unfold tellL
  rw [if_pos h]
theorem any_flat {α : Type} (f : Nat → Bool) (g : α → List Nat) (l : List α) : (l.flatMap g).any f = l.any (fun p => (g p).any f) := by
  induction l with
  | nil => rfl
  | cons a l ih => simp only [List.flatMap_cons, List.any_append, List.any_cons, ih]
theorem anyB_range (q : Nat → Bool) : ∀ n, (List.range n).any q = anyB q n
  | 0 => rfl
  | n + 1 => by rw [List.range_succ, List.any_append, anyB_range q n]; simp [anyB]
theorem any_ask (f : Nat → Bool) (L : Nat → Nat) (T : Nat → Nat → Nat) (m a k x : Nat) (h : a.testBit (m - (k + 1)) = true) : (tellL L T m a (k + 1) x).any f = (anyB (fun p => !x.testBit (T (m - (k + 1)) p) && (tellL L T m a k (x ||| 2 ^ T (m - (k + 1)) p)).any f) (L (m - (k + 1))) || (tellL L T m a k x).any f) := by
  rw [tell_ask L T m a k x h, List.any_append, any_flat, anyB_range, Bool.or_comm]
  congr 2
  funext p
  cases x.testBit (T (m - (k + 1)) p) <;> simp
theorem tell_mem (L : Nat → Nat) (T : Nat → Nat → Nat) (m a k x y : Nat) (h : a.testBit (m - (k + 1)) = true) : y ∈ tellL L T m a (k + 1) x ↔ y ∈ tellL L T m a k x ∨ ∃ p, p < L (m - (k + 1)) ∧ x.testBit (T (m - (k + 1)) p) = false ∧ y ∈ tellL L T m a k (x ||| 2 ^ T (m - (k + 1)) p) := by
  rw [tell_ask L T m a k x h, List.mem_append, List.mem_flatMap]
  refine or_congr Iff.rfl ?_
  constructor
  · rintro ⟨p, hp, hy⟩
    by_cases e : x.testBit (T (m - (k + 1)) p) = true
    · rw [if_pos e] at hy; cases hy
    · rw [if_neg e] at hy
      exact ⟨p, by simpa using hp, by simpa using e, hy⟩
  · rintro ⟨p, hp, e, hy⟩
    exact ⟨p, by simpa using hp, by rw [if_neg (by simp [e])]; exact hy⟩
theorem or_bit (x u i : Nat) : (x ||| 2 ^ u).testBit i = (x.testBit i || decide (u = i)) := by rw [Nat.testBit_or, Nat.testBit_two_pow]
/-- Nobody tells. -/
theorem tell_self (L : Nat → Nat) (T : Nat → Nat → Nat) (m a : Nat) : ∀ k x, x ∈ tellL L T m a k x
  | 0, x => by simp [tellL]
  | k + 1, x => by
    cases h : a.testBit (m - (k + 1))
    · rw [tell_skip _ _ _ _ _ _ h]; exact tell_self L T m a k x
    · rw [tell_mem _ _ _ _ _ _ _ h]; exact .inl (tell_self L T m a k x)
/-- One tells. -/
theorem tell_one (L : Nat → Nat) (T : Nat → Nat → Nat) (m a v p : Nat) (hv : v < m) (ha : a.testBit v = true) (hp : p < L v) : ∀ k x, k ≤ m → m - k ≤ v → x.testBit (T v p) = false → (x ||| 2 ^ T v p) ∈ tellL L T m a k x
  | 0, x, _, h, _ => by omega
  | k + 1, x, hk, h, hx => by
    by_cases e : m - (k + 1) = v
    · rw [tell_mem _ _ _ _ _ _ _ (by rw [e]; exact ha), e]
      exact .inr ⟨p, hp, hx, tell_self L T m a k _⟩
    · have ih := tell_one L T m a v p hv ha hp k x (by omega) (by omega) hx
      cases h' : a.testBit (m - (k + 1))
      · rw [tell_skip _ _ _ _ _ _ h']; exact ih
      · rw [tell_mem _ _ _ _ _ _ _ h']; exact .inl ih
/-- What is told comes from one that had it. -/
theorem tell_from (L : Nat → Nat) (T : Nat → Nat → Nat) (m a : Nat) : ∀ k x y, k ≤ m → y ∈ tellL L T m a k x → ∀ i, y.testBit i = true → x.testBit i = true ∨ ∃ v p, v < m ∧ a.testBit v = true ∧ p < L v ∧ T v p = i
  | 0, x, y, _, h, i, hi => by
    simp [tellL] at h
    rw [h] at hi
    exact .inl hi
  | k + 1, x, y, hk, h, i, hi => by
    cases h' : a.testBit (m - (k + 1))
    · rw [tell_skip _ _ _ _ _ _ h'] at h
      exact tell_from L T m a k x y (by omega) h i hi
    · rw [tell_mem _ _ _ _ _ _ _ h'] at h
      rcases h with h | ⟨p, hp, hx, h⟩
      · exact tell_from L T m a k x y (by omega) h i hi
      · rcases tell_from L T m a k _ y (by omega) h i hi with h2 | h2
        · rw [or_bit, Bool.or_eq_true, decide_eq_true_eq] at h2
          rcases h2 with h2 | h2
          · exact .inl h2
          · exact .inr ⟨_, p, by omega, h', hp, h2⟩
        · exact .inr h2
theorem tell_keeps (L : Nat → Nat) (T : Nat → Nat → Nat) (m a : Nat) : ∀ k x y, y ∈ tellL L T m a k x → ∀ i, x.testBit i = true → y.testBit i = true
  | 0, x, y, h, i, hi => by
    simp [tellL] at h
    rw [h]; exact hi
  | k + 1, x, y, h, i, hi => by
    cases h' : a.testBit (m - (k + 1))
    · rw [tell_skip _ _ _ _ _ _ h'] at h
      exact tell_keeps L T m a k x y h i hi
    · rw [tell_mem _ _ _ _ _ _ _ h'] at h
      rcases h with h | ⟨p, hp, hx, h⟩
      · exact tell_keeps L T m a k x y h i hi
      · exact tell_keeps L T m a k _ y h i (by rw [or_bit, hi]; rfl)
theorem tell_lt {L : Nat → Nat} {T : Nat → Nat → Nat} {m : Nat} (hT : ∀ v p, v < m → p < L v → T v p < m) {a k x y : Nat} (hk : k ≤ m) (hx : x < 2 ^ m) (h : y ∈ tellL L T m a k x) : y < 2 ^ m := by
  refine Nat.lt_pow_two_of_testBit y fun i hi => ?_
  cases e : y.testBit i
  · rfl
  · rcases tell_from L T m a k x y hk h i e with h2 | ⟨v, p, hv, _, hp, e2⟩
    · rw [Nat.testBit_lt_two_pow (Nat.lt_of_lt_of_le hx (Nat.pow_le_pow_right (by omega) hi))] at h2
      cases h2
    · have := hT v p hv hp
      omega

/-! ### how many have it -/
def wgt (m a : Nat) : Nat := cntB a.testBit m
theorem cnt_or (p : Nat → Bool) (u : Nat) : ∀ n, cntB (fun i => p i || decide (u = i)) n ≤ cntB p n + 1 ∧ (n ≤ u → cntB (fun i => p i || decide (u = i)) n = cntB p n) ∧ (u < n → p u = false → cntB (fun i => p i || decide (u = i)) n = cntB p n + 1)
  | 0 => ⟨by simp [cntB], fun _ => rfl, fun h => absurd h (Nat.not_lt_zero _)⟩
  | n + 1 => by
    obtain ⟨h1, h2, h3⟩ := cnt_or p u n
    unfold cntB
    by_cases e : u = n
    · subst e
      have := h2 (Nat.le_refl _)
      refine ⟨?_, fun h => by omega, fun _ hp => ?_⟩
      · rw [if_pos (by simp)]; split <;> omega
      · rw [if_pos (by simp), if_neg (by simp [hp])]; omega
    · have e2 : (p n || decide (u = n)) = p n := by simp [e]
      rw [e2]
      refine ⟨by omega, fun h => ?_, fun h hp => ?_⟩
      · rw [h2 (by omega)]
      · rw [h3 (by omega) hp]; omega
theorem wgt_or (m x u : Nat) : wgt m (x ||| 2 ^ u) ≤ wgt m x + 1 := by
  unfold wgt
  rw [cntB_congr m (q := fun i => x.testBit i || decide (u = i)) (fun i _ => or_bit x u i)]
  exact (cnt_or _ u m).1
theorem wgt_more (m x u : Nat) (hu : u < m) (hx : x.testBit u = false) : wgt m (x ||| 2 ^ u) = wgt m x + 1 := by
  unfold wgt
  rw [cntB_congr m (q := fun i => x.testBit i || decide (u = i)) (fun i _ => or_bit x u i)]
  exact (cnt_or _ u m).2.2 hu hx
theorem full_bit (m i : Nat) : (2 ^ m - 1).testBit i = decide (i < m) := Nat.testBit_two_pow_sub_one m i
theorem cnt_true : ∀ n (p : Nat → Bool), (∀ i, i < n → p i = true) → cntB p n = n
  | 0, _, _ => rfl
  | n + 1, p, h => by unfold cntB; rw [cnt_true n p (fun i hi => h i (by omega)), if_pos (h n (by omega))]
theorem wgt_full (m : Nat) : wgt m (2 ^ m - 1) = m := cnt_true m _ (fun i hi => by rw [full_bit]; simp [hi])
theorem wgt_one (m s : Nat) (hs : s < m) : wgt m (2 ^ s) = 1 := by
  have := wgt_more m 0 s hs (by simp)
  rw [Nat.zero_or] at this
  rw [this]
  have : wgt m 0 = 0 := by
    have h := cntB_pos (Nat.testBit 0) m
    unfold wgt
    have : ¬ 0 < cntB (Nat.testBit 0) m := fun h' => by obtain ⟨k, _, hk⟩ := h.1 h'; simp at hk
    omega
  omega
theorem full_of_wgt {m x : Nat} (hx : x < 2 ^ m) (h : m ≤ wgt m x) : x = 2 ^ m - 1 := by
  have h0 := cntB_le x.testBit m
  have h1 : ∀ i, i < m → x.testBit i = true := fun i hi => cntB_same x.testBit (fun _ => true) m (fun _ _ _ => rfl) (by rw [cnt_true m (fun _ => true) (fun _ _ => rfl)]; unfold wgt at h; omega) i hi rfl
  refine Nat.eq_of_testBit_eq fun i => ?_
  rw [full_bit]
  by_cases hi : i < m
  · rw [h1 i hi]; simp [hi]
  · rw [Nat.testBit_lt_two_pow (Nat.lt_of_lt_of_le hx (Nat.pow_le_pow_right (by omega) (by omega)))]; simp [hi]
/-- How many of the last k nodes had it. -/
def cntL (m a : Nat) : Nat → Nat
  | 0 => 0
  | k + 1 => cntL m a k + (if a.testBit (m - (k + 1)) then 1 else 0)
theorem cntL_all (m a : Nat) : ∀ k, k ≤ m → cntB a.testBit (m - k) + cntL m a k = wgt m a
  | 0, _ => by simp [cntL, wgt]
  | k + 1, hk => by
    have ih := cntL_all m a k (by omega)
    rw [show m - k = (m - (k + 1)) + 1 by omega] at ih
    simp only [cntB] at ih
    simp only [cntL]
    omega
theorem tell_wgt (L : Nat → Nat) (T : Nat → Nat → Nat) (m a : Nat) : ∀ k x y, y ∈ tellL L T m a k x → wgt m y ≤ wgt m x + cntL m a k
  | 0, x, y, h => by
    simp [tellL] at h
    rw [h]; simp [cntL]
  | k + 1, x, y, h => by
    cases h' : a.testBit (m - (k + 1))
    · rw [tell_skip _ _ _ _ _ _ h'] at h
      have := tell_wgt L T m a k x y h
      simp only [cntL, h']
      simpa using this
    · rw [tell_mem _ _ _ _ _ _ _ h'] at h
      simp only [cntL, h', if_true]
      rcases h with h | ⟨p, hp, hx, h⟩
      · have := tell_wgt L T m a k x y h
        omega
      · have := tell_wgt L T m a k _ y h
        have := wgt_or m x (T (m - (k + 1)) p)
        omega
theorem tell_dbl {L : Nat → Nat} {T : Nat → Nat → Nat} {m a y : Nat} (h : y ∈ tellL L T m a m a) : wgt m y ≤ 2 * wgt m a := by
  have h1 := tell_wgt L T m a m a y h
  have h2 := cntL_all m a m (Nat.le_refl _)
  omega

/-! ### rounds -/
/-- May just those in x have word after r rounds from those in a? -/
def tellR (L : Nat → Nat) (T : Nat → Nat → Nat) (m : Nat) : Nat → Nat → Nat → Prop
  | 0, a, x => x = a
  | r + 1, a, x => ∃ b, b ∈ tellL L T m a m a ∧ tellR L T m r b x
theorem tellR_back (L : Nat → Nat) (T : Nat → Nat → Nat) (m : Nat) : ∀ r a x, tellR L T m (r + 1) a x ↔ ∃ b, tellR L T m r a b ∧ x ∈ tellL L T m b m b
  | 0, a, x => by
    constructor
    · rintro ⟨b, hb, rfl⟩; exact ⟨a, rfl, hb⟩
    · rintro ⟨b, rfl, hb⟩; exact ⟨x, hb, rfl⟩
  | r + 1, a, x => by
    constructor
    · rintro ⟨b, hb, h⟩
      obtain ⟨y, h1, h2⟩ := (tellR_back L T m r b x).1 h
      exact ⟨y, ⟨b, hb, h1⟩, h2⟩
    · rintro ⟨y, ⟨b, hb, h1⟩, h2⟩
      exact ⟨b, hb, (tellR_back L T m r b x).2 ⟨y, h1, h2⟩⟩
theorem tellR_wgt (L : Nat → Nat) (T : Nat → Nat → Nat) (m : Nat) : ∀ r a x, tellR L T m r a x → wgt m x ≤ wgt m a * 2 ^ r
  | 0, a, x, h => by
    have : x = a := h
    rw [this]; omega
  | r + 1, a, x, ⟨b, hb, h⟩ => by
    have h1 := tellR_wgt L T m r b x h
    have h2 := tell_dbl hb
    have h3 := Nat.mul_le_mul_right (2 ^ r) h2
    rw [Nat.pow_succ, show wgt m a * (2 ^ r * 2) = 2 * wgt m a * 2 ^ r by rw [Nat.mul_comm (2 ^ r) 2, ← Nat.mul_assoc, Nat.mul_comm (wgt m a) 2]]
    omega
/-- Does word come to all in l rounds? -/
def wakeB (L : Nat → Nat) (T : Nat → Nat → Nat) (m : Nat) : Nat → Nat → Bool
  | 0, a => a == 2 ^ m - 1
  | l + 1, a => a == 2 ^ m - 1 || (decide (m ≤ wgt m a * 2 ^ (l + 1)) && (tellL L T m a m a).any (fun x => x != a && wakeB L T m l x))
theorem wake_sound (L : Nat → Nat) (T : Nat → Nat → Nat) (m : Nat) : ∀ l a, wakeB L T m l a = true → ∃ r, r ≤ l ∧ tellR L T m r a (2 ^ m - 1)
  | 0, a, h => ⟨0, Nat.le_refl _, by simp [wakeB] at h; exact h.symm⟩
  | l + 1, a, h => by
    unfold wakeB at h
    rw [Bool.or_eq_true, Bool.and_eq_true, List.any_eq_true] at h
    rcases h with h | ⟨_, x, hx, h⟩
    · exact ⟨0, by omega, by simp at h; exact h.symm⟩
    · rw [Bool.and_eq_true] at h
      obtain ⟨r, hr, h2⟩ := wake_sound L T m l x h.2
      exact ⟨r + 1, by omega, x, hx, h2⟩
theorem wake_whole (L : Nat → Nat) (T : Nat → Nat → Nat) (m : Nat) : ∀ l r a, r ≤ l → tellR L T m r a (2 ^ m - 1) → wakeB L T m l a = true
  | 0, r, a, hr, h => by
    obtain rfl : r = 0 := by omega
    have : 2 ^ m - 1 = a := h
    simp [wakeB, this]
  | l + 1, r, a, hr, h => by
    induction r with
    | zero =>
      have : 2 ^ m - 1 = a := h
      simp [wakeB, this]
    | succ r ih =>
      obtain ⟨b, hb, h2⟩ := id h
      by_cases e : b = a
      · subst e
        exact ih (by omega) h2
      · have h3 := wake_whole L T m l r b (by omega) h2
        have h4 := tellR_wgt L T m (r + 1) a _ h
        rw [wgt_full] at h4
        have h5 : wgt m a * 2 ^ (r + 1) ≤ wgt m a * 2 ^ (l + 1) := Nat.mul_le_mul_left _ (Nat.pow_le_pow_right (by omega) hr)
        unfold wakeB
        rw [Bool.or_eq_true, Bool.and_eq_true, List.any_eq_true]
        exact .inr ⟨by simp; omega, b, hb, by simp [e, h3]⟩

/-! ### one more in each round -/
section
variable {m : Nat} {L : Nat → Nat} {T : Nat → Nat → Nat}
theorem tell_grows (hT : ∀ v p, v < m → p < L v → T v p < m) (hB : ∀ v p, v < m → p < L v → Adj L T (T v p) v) (hF : ∀ v, v < m → 0 ≤ farF m L T 0 v) {a s : Nat} (hs : s < m) (ha : a.testBit s = true) (hn : ∃ u, u < m ∧ a.testBit u = false) :
    ∃ v p, v < m ∧ p < L v ∧ a.testBit v = true ∧ a.testBit (T v p) = false := by
  apply Classical.byContradiction
  intro hno
  have D := far_dist m L T 0
  have same : ∀ v p, v < m → p < L v → a.testBit v = a.testBit (T v p) := fun v p hv hp => by
    cases e1 : a.testBit v <;> cases e2 : a.testBit (T v p)
    · rfl
    · obtain ⟨q, hq, e3⟩ := hB v p hv hp
      exact absurd ⟨T v p, q, hT v p hv hp, hq, e2, by rw [e3]; exact e1⟩ hno
    · exact absurd ⟨v, p, hv, hp, e1, e2⟩ hno
    · rfl
  have all : ∀ (d : Nat) (v : Nat), v < m → farF m L T 0 v = (d : Int) → a.testBit v = a.testBit 0 := by
    intro d
    induction d with
    | zero => intro v hv e; rw [D.zero v hv (by simpa using e)]
    | succ d ih =>
      intro v hv e
      obtain ⟨u, hu, e1, p, hp, e2⟩ := D.pred v hv (by omega)
      rw [← ih u hu (by omega), same u p hu hp, e2]
  have at' : ∀ v, v < m → a.testBit v = a.testBit 0 := fun v hv => by
    obtain ⟨d, hd⟩ := Int.eq_ofNat_of_zero_le (hF v hv)
    exact all d v hv hd
  obtain ⟨u, hu, e⟩ := hn
  rw [at' u hu, ← at' s hs, ha] at e
  cases e
theorem tell_chain (hT : ∀ v p, v < m → p < L v → T v p < m) (hB : ∀ v p, v < m → p < L v → Adj L T (T v p) v) (hF : ∀ v, v < m → 0 ≤ farF m L T 0 v) {s : Nat} (hs : s < m) :
    ∀ r, ∃ x, tellR L T m r (2 ^ s) x ∧ x.testBit s = true ∧ x < 2 ^ m ∧ (x = 2 ^ m - 1 ∨ r + 1 ≤ wgt m x)
  | 0 => ⟨2 ^ s, rfl, by rw [Nat.testBit_two_pow]; simp, Nat.pow_lt_pow_right (by omega) hs, .inr (by rw [wgt_one m s hs]; omega)⟩
  | r + 1 => by
    obtain ⟨x, h1, h2, h3, h4⟩ := tell_chain hT hB hF hs r
    by_cases e : x = 2 ^ m - 1
    · exact ⟨x, (tellR_back L T m r _ _).2 ⟨x, h1, tell_self L T m x m x⟩, h2, h3, .inl e⟩
    · have h4' : r + 1 ≤ wgt m x := by
        rcases h4 with h | h
        · exact absurd h e
        · exact h
      have hn : ∃ u, u < m ∧ x.testBit u = false := by
        apply Classical.byContradiction
        intro hno
        refine e (full_of_wgt h3 ?_)
        rw [show wgt m x = m from cnt_true m _ fun i hi => by
          cases ei : x.testBit i
          · exact absurd ⟨i, hi, ei⟩ hno
          · rfl]
        exact Nat.le_refl _
      obtain ⟨v, p, hv, hp, e1, e2⟩ := tell_grows hT hB hF hs h2 hn
      have hu := hT v p hv hp
      have hin := tell_one L T m x v p hv e1 hp m x (Nat.le_refl _) (by omega) e2
      refine ⟨x ||| 2 ^ T v p, (tellR_back L T m r _ _).2 ⟨x, h1, hin⟩, by rw [or_bit, h2]; rfl, Nat.or_lt_two_pow h3 (Nat.pow_lt_pow_right (by omega) hu), .inr ?_⟩
      rw [wgt_more m x _ hu e2]
      omega
/-- In how many rounds does word come to all? -/
def wakeF (L : Nat → Nat) (T : Nat → Nat → Nat) (m s : Nat) : Nat := leastN (fun l => wakeB L T m l (2 ^ s)) m
theorem wake_lt (hT : ∀ v p, v < m → p < L v → T v p < m) (hB : ∀ v p, v < m → p < L v → Adj L T (T v p) v) (hF : ∀ v, v < m → 0 ≤ farF m L T 0 v) {s : Nat} (hs : s < m) : wakeF L T m s < m := by
  obtain ⟨x, h1, _, h3, h4⟩ := tell_chain hT hB hF hs (m - 1)
  have e : x = 2 ^ m - 1 := by
    rcases h4 with h | h
    · exact h
    · exact full_of_wgt h3 (by omega)
  rw [e] at h1
  have hw := wake_whole L T m (m - 1) (m - 1) (2 ^ s) (Nat.le_refl _) h1
  have hle := leastN_le (fun l => wakeB L T m l (2 ^ s)) m
  by_cases h : wakeF L T m s < m
  · exact h
  · have := leastN_before (fun l => wakeB L T m l (2 ^ s)) m (m - 1) (by unfold wakeF at h; omega)
    rw [hw] at this
    cases this
theorem wake_at (hT : ∀ v p, v < m → p < L v → T v p < m) (hB : ∀ v p, v < m → p < L v → Adj L T (T v p) v) (hF : ∀ v, v < m → 0 ≤ farF m L T 0 v) {s : Nat} (hs : s < m) : wakeB L T m (wakeF L T m s) (2 ^ s) = true :=
  leastN_at (fun l => wakeB L T m l (2 ^ s)) m (wake_lt hT hB hF hs)
theorem wake_before {s l : Nat} (h : l < wakeF L T m s) : wakeB L T m l (2 ^ s) = false := leastN_before (fun l => wakeB L T m l (2 ^ s)) m l h
/-- After just so many rounds all may have it, and not ahead of that. -/
theorem wakeR_at (hT : ∀ v p, v < m → p < L v → T v p < m) (hB : ∀ v p, v < m → p < L v → Adj L T (T v p) v) (hF : ∀ v, v < m → 0 ≤ farF m L T 0 v) {s : Nat} (hs : s < m) : tellR L T m (wakeF L T m s) (2 ^ s) (2 ^ m - 1) := by
  obtain ⟨r, hr, h⟩ := wake_sound L T m _ _ (wake_at hT hB hF hs)
  by_cases e : r = wakeF L T m s
  · rw [← e]; exact h
  · have h1 := wake_before (L := L) (T := T) (m := m) (s := s) (l := r) (by omega)
    rw [wake_whole L T m r r _ (Nat.le_refl _) h] at h1
    cases h1
theorem wakeR_before {s r : Nat} (h : r < wakeF L T m s) : ¬ tellR L T m r (2 ^ s) (2 ^ m - 1) := fun h2 => by
  have h1 := wake_before (L := L) (T := T) (m := m) h
  rw [wake_whole L T m r r _ (Nat.le_refl _) h2] at h1
  cases h1

/-! ### bounds -/
theorem wake_dbl (hT : ∀ v p, v < m → p < L v → T v p < m) (hB : ∀ v p, v < m → p < L v → Adj L T (T v p) v) (hF : ∀ v, v < m → 0 ≤ farF m L T 0 v) {s : Nat} (hs : s < m) : m ≤ 2 ^ wakeF L T m s := by
  have := tellR_wgt L T m _ _ _ (wakeR_at hT hB hF hs)
  rw [wgt_full, wgt_one m s hs] at this
  omega
theorem tellR_far (hT : ∀ v p, v < m → p < L v → T v p < m) {s : Nat} (hs : s < m) : ∀ r x, tellR L T m r (2 ^ s) x → ∀ v, v < m → x.testBit v = true → 0 ≤ farF m L T s v ∧ farF m L T s v ≤ (r : Int)
  | 0, x, h, v, hv, hx => by
    have e : x = 2 ^ s := h
    rw [e, Nat.testBit_two_pow, decide_eq_true_eq] at hx
    rw [← hx, (far_dist m L T s).src]
    omega
  | r + 1, x, h, v, hv, hx => by
    obtain ⟨b, h1, h2⟩ := (tellR_back L T m r _ _).1 h
    rcases tell_from L T m b m b x (Nat.le_refl _) h2 v hx with h3 | ⟨u, p, hu, hb, hp, e⟩
    · have := tellR_far hT hs r b h1 v hv h3
      omega
    · have := tellR_far hT hs r b h1 u hu hb
      have := (far_dist m L T s).edge u v hu hv ⟨p, hp, e⟩ this.1
      omega
theorem wake_far (hT : ∀ v p, v < m → p < L v → T v p < m) (hB : ∀ v p, v < m → p < L v → Adj L T (T v p) v) (hF : ∀ v, v < m → 0 ≤ farF m L T 0 v) {s : Nat} (hs : s < m) (v : Nat) (hv : v < m) : farF m L T s v ≤ (wakeF L T m s : Int) :=
  (tellR_far hT hs _ _ (wakeR_at hT hB hF hs) v hv (by rw [full_bit]; simp [hv])).2
end
end Go.Proofs.Ytdjilgbcpdlkfaa
