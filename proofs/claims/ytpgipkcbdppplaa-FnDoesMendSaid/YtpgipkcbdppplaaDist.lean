/-
  Plain laws on distances in a net: what distances are, that there is one such function, that the reference's levels are it, and what a search that goes on from a queue keeps. Condition: ports lead to nodes.
-/
import Derived.Test.YtpgipkcbdppplaaFunc
namespace Go.Proofs.Ytpgipkcbdppplaa
open Go.RowKit

/-- Does a port of v lead to u? L: how many ports, T: where they lead. -/
def Adj (L : Nat → Nat) (T : Nat → Nat → Nat) (v u : Nat) : Prop := ∃ p, p < L v ∧ T v p = u
/-- f is the distance from s, -1 where there is no way. -/
structure IsDist (m : Nat) (A : Nat → Nat → Prop) (s : Nat) (f : Nat → Int) : Prop where
  low : ∀ x, x < m → -1 ≤ f x
  src : f s = 0
  zero : ∀ x, x < m → f x = 0 → x = s
  pred : ∀ x, x < m → 0 < f x → ∃ v, v < m ∧ f v = f x - 1 ∧ A v x
  edge : ∀ v u, v < m → u < m → A v u → 0 ≤ f v → 0 ≤ f u ∧ f u ≤ f v + 1
theorem dist_le {m s : Nat} {A : Nat → Nat → Prop} {f g : Nat → Int} (hf : IsDist m A s f) (hg : IsDist m A s g) : ∀ (d : Nat) (x : Nat), x < m → f x = (d : Int) → 0 ≤ g x ∧ g x ≤ (d : Int)
  | 0, x, hx, h => by
    obtain rfl := hf.zero x hx (by simpa using h)
    rw [hg.src]; omega
  | d + 1, x, hx, h => by
    obtain ⟨v, hv, e, a⟩ := hf.pred x hx (by omega)
    obtain ⟨h1, h2⟩ := dist_le hf hg d v hv (by omega)
    obtain ⟨h3, h4⟩ := hg.edge v x hv hx a h1
    exact ⟨h3, by omega⟩
theorem dist_eq {m s : Nat} {A : Nat → Nat → Prop} {f g : Nat → Int} (hf : IsDist m A s f) (hg : IsDist m A s g) (x : Nat) (hx : x < m) : f x = g x := by
  have l1 := hf.low x hx
  have l2 := hg.low x hx
  by_cases h : 0 ≤ f x
  · obtain ⟨d, hd⟩ := Int.eq_ofNat_of_zero_le h
    obtain ⟨h1, h2⟩ := dist_le hf hg d x hx hd
    obtain ⟨e, he⟩ := Int.eq_ofNat_of_zero_le h1
    obtain ⟨_, h3⟩ := dist_le hg hf e x hx he
    omega
  · by_cases h' : 0 ≤ g x
    · obtain ⟨e, he⟩ := Int.eq_ofNat_of_zero_le h'
      obtain ⟨h3, _⟩ := dist_le hg hf e x hx he
      omega
    · omega
/-- k different numbers below m: k is at most m. -/
theorem pigeon : ∀ (m k : Nat) (y : Nat → Nat), (∀ i, i < k → y i < m) → (∀ i j, i < k → j < k → y i = y j → i = j) → k ≤ m
  | 0, k, y, h, _ => by
    rcases Nat.eq_zero_or_pos k with h0 | h0
    · omega
    · exact absurd (h 0 h0) (Nat.not_lt_zero _)
  | m + 1, k, y, h, inj => by
    by_cases hex : ∃ i, i < k ∧ y i = m
    · obtain ⟨i, hi, e⟩ := hex
      have := pigeon m (k - 1) (fun j => y (if j < i then j else j + 1)) (fun j hj => by
        have h1 := h (if j < i then j else j + 1) (by split <;> omega)
        have h2 : y (if j < i then j else j + 1) ≠ m := fun e2 => by
          have := inj _ _ (by split <;> omega) hi (e2.trans e.symm)
          split at this <;> omega
        (try dsimp only)
        omega) (fun a b ha hb e2 => by
        have := inj _ _ (by split <;> omega) (by split <;> omega) e2
        split at this <;> split at this <;> omega)
      omega
    · have := pigeon m k y (fun i hi => by
        have := h i hi
        have : y i ≠ m := fun e => hex ⟨i, hi, e⟩
        omega) inj
      omega
/-- From each value down to 0 there is one. -/
theorem chain {m : Nat} {A : Nat → Nat → Prop} {f : Nat → Int} (hp : ∀ x, x < m → 0 < f x → ∃ v, v < m ∧ f v = f x - 1 ∧ A v x) : ∀ (d : Nat) (x : Nat), x < m → f x = (d : Int) → ∀ e, e ≤ d → ∃ y, y < m ∧ f y = (e : Int)
  | 0, x, hx, h, e, he => ⟨x, hx, by rw [h]; congr 1; omega⟩
  | d + 1, x, hx, h, e, he => by
    by_cases h1 : e = d + 1
    · exact ⟨x, hx, by rw [h, h1]⟩
    · obtain ⟨v, hv, e1, _⟩ := hp x hx (by omega)
      exact chain hp d v hv (by omega) e (by omega)
theorem dist_lt {m : Nat} {A : Nat → Nat → Prop} {f : Nat → Int} (hp : ∀ x, x < m → 0 < f x → ∃ v, v < m ∧ f v = f x - 1 ∧ A v x) (x : Nat) (hx : x < m) : f x < (m : Int) := by
  by_cases h : 0 ≤ f x
  · obtain ⟨d, hd⟩ := Int.eq_ofNat_of_zero_le h
    obtain ⟨y, hy⟩ := Deep.choose_lt (n := d + 1) (p := fun e y => y < m ∧ f y = (e : Int)) (fun e he => chain hp d x hx hd e (by omega))
    have := pigeon m (d + 1) y (fun i hi => (hy i hi).1) (fun i j hi hj e => by
      have h1 := (hy i hi).2
      have h2 := (hy j hj).2
      rw [e] at h1
      omega)
    omega
  · omega

/-! ### the reference's levels -/
/-- Does one of the first v nodes at f d have a port that leads to x? -/
def hitB (L : Nat → Nat) (T : Nat → Nat → Nat) (d : Nat) (f : Nat → Int) (v x : Nat) : Bool := anyB (fun v' => decide (f v' = (d : Int)) && anyB (fun p => T v' p == x) (L v')) v
/-- A sweep: the first v nodes, and p ports of the node v. -/
def sweptF (L : Nat → Nat) (T : Nat → Nat → Nat) (d : Nat) (f : Nat → Int) (v p : Nat) : Nat → Int := fun x =>
  if 0 ≤ f x then f x else if hitB L T d f v x || (decide (f v = (d : Int)) && anyB (fun p' => T v p' == x) p) then (d : Int) + 1 else f x
/-- The levels up to d. -/
def levF (m : Nat) (L : Nat → Nat) (T : Nat → Nat → Nat) (s : Nat) : Nat → Nat → Int
  | 0 => fun x => if x = s then 0 else -1
  | d + 1 => sweptF L T d (levF m L T s d) m 0
/-- The distances. -/
def farF (m : Nat) (L : Nat → Nat) (T : Nat → Nat → Nat) (s : Nat) : Nat → Int := levF m L T s m
theorem swept_zero (L : Nat → Nat) (T : Nat → Nat → Nat) (d : Nat) (f : Nat → Int) : sweptF L T d f 0 0 = f := by
  funext x
  unfold sweptF hitB
  simp [anyB]
theorem swept_next (L : Nat → Nat) (T : Nat → Nat → Nat) (d : Nat) (f : Nat → Int) (v : Nat) : sweptF L T d f v (L v) = sweptF L T d f (v + 1) 0 := by
  funext x
  unfold sweptF hitB
  simp only [anyB, Bool.and_false, Bool.or_false]
theorem swept_skip (L : Nat → Nat) (T : Nat → Nat → Nat) (d : Nat) (f : Nat → Int) (v p : Nat) (h : f v ≠ (d : Int)) : sweptF L T d f v p = sweptF L T d f v 0 := by
  funext x
  unfold sweptF
  simp [h]
theorem swept_keeps (L : Nat → Nat) (T : Nat → Nat → Nat) (d : Nat) (f : Nat → Int) (v p x : Nat) (h : 0 ≤ f x) : sweptF L T d f v p x = f x := by
  unfold sweptF; rw [if_pos h]
theorem swept_at (L : Nat → Nat) (T : Nat → Nat → Nat) (d : Nat) (f : Nat → Int) (v p x : Nat) : (sweptF L T d f v p x = (d : Int)) ↔ f x = (d : Int) := by
  unfold sweptF
  by_cases h : 0 ≤ f x
  · rw [if_pos h]
  · rw [if_neg h]
    split <;> omega
theorem swept_low (L : Nat → Nat) (T : Nat → Nat → Nat) (d : Nat) (f : Nat → Int) (v p x : Nat) (hl : -1 ≤ f x) : -1 ≤ sweptF L T d f v p x := by
  unfold sweptF
  split
  · exact hl
  · split
    · omega
    · exact hl
/-- One port more. -/
theorem swept_port (L : Nat → Nat) (T : Nat → Nat → Nat) (d : Nat) (f : Nat → Int) (v p : Nat) (h : f v = (d : Int)) (hneg : sweptF L T d f v p (T v p) < 0) : sweptF L T d f v (p + 1) = fun x => if x = T v p then (d : Int) + 1 else sweptF L T d f v p x := by
  funext x
  unfold sweptF at hneg ⊢
  by_cases e : x = T v p
  · subst e
    rw [if_pos rfl]
    have hn : ¬ 0 ≤ f (T v p) := fun h0 => by rw [if_pos h0] at hneg; omega
    rw [if_neg hn, if_pos (by simp [anyB, h])]
  · rw [if_neg e]
    have e' : ¬ T v p = x := fun h => e h.symm
    simp [anyB, e']
theorem swept_port_not (L : Nat → Nat) (T : Nat → Nat → Nat) (d : Nat) (f : Nat → Int) (v p : Nat) (hneg : ¬ sweptF L T d f v p (T v p) < 0) : sweptF L T d f v (p + 1) = sweptF L T d f v p := by
  funext x
  unfold sweptF at hneg ⊢
  by_cases e : x = T v p
  · subst e
    by_cases h0 : 0 ≤ f (T v p)
    · rw [if_pos h0, if_pos h0]
    · rw [if_neg h0] at hneg ⊢
      rw [if_neg h0]
      by_cases hh : (hitB L T d f v (T v p) || (decide (f v = (d : Int)) && anyB (fun p' => T v p' == T v p) p)) = true
      · rw [if_pos hh]
        have hh2 : (hitB L T d f v (T v p) || (decide (f v = (d : Int)) && anyB (fun p' => T v p' == T v p) (p + 1))) = true := by
          rw [Bool.or_eq_true] at hh ⊢
          rcases hh with hh | hh
          · exact .inl hh
          · rw [Bool.and_eq_true] at hh
            exact .inr (by rw [anyB, hh.1, hh.2]; rfl)
        rw [if_pos hh2]
      · rw [if_neg hh] at hneg
        omega
  · have e' : ¬ T v p = x := fun h => e h.symm
    simp [anyB, e']
structure LevInv (m : Nat) (L : Nat → Nat) (T : Nat → Nat → Nat) (s d : Nat) (f : Nat → Int) : Prop where
  low : ∀ x, -1 ≤ f x
  src : f s = 0
  zero : ∀ x, f x = 0 → x = s
  hi : ∀ x, f x ≤ (d : Int)
  pred : ∀ x, 0 < f x → ∃ v, v < m ∧ f v = f x - 1 ∧ Adj L T v x
  edge : ∀ v u, v < m → Adj L T v u → 0 ≤ f v → f v < (d : Int) → 0 ≤ f u ∧ f u ≤ f v + 1
theorem hit_iff (L : Nat → Nat) (T : Nat → Nat → Nat) (d : Nat) (f : Nat → Int) (v x : Nat) : hitB L T d f v x = true ↔ ∃ v', v' < v ∧ f v' = (d : Int) ∧ Adj L T v' x := by
  unfold hitB
  rw [anyB_iff]
  constructor
  · rintro ⟨v', h1, h2⟩
    rw [Bool.and_eq_true, anyB_iff] at h2
    obtain ⟨h3, p, h4, h5⟩ := h2
    exact ⟨v', h1, of_decide_eq_true h3, p, h4, by simpa using h5⟩
  · rintro ⟨v', h1, h2, p, h4, h5⟩
    refine ⟨v', h1, ?_⟩
    rw [Bool.and_eq_true, anyB_iff]
    exact ⟨decide_eq_true h2, p, h4, by simpa using h5⟩
theorem lev_next (m : Nat) (L : Nat → Nat) (T : Nat → Nat → Nat) (s d : Nat) (x : Nat) : levF m L T s (d + 1) x = if 0 ≤ levF m L T s d x then levF m L T s d x else if hitB L T d (levF m L T s d) m x then (d : Int) + 1 else levF m L T s d x := by
  show sweptF L T d (levF m L T s d) m 0 x = _
  unfold sweptF
  simp [anyB]
theorem lev_inv (m : Nat) (L : Nat → Nat) (T : Nat → Nat → Nat) (s : Nat) : ∀ d, LevInv m L T s d (levF m L T s d)
  | 0 => by
    have e : ∀ x, levF m L T s 0 x = if x = s then 0 else -1 := fun _ => rfl
    refine ⟨fun x => ?_, by rw [e, if_pos rfl], fun x h => ?_, fun x => ?_, fun x h => ?_, fun v u _ _ h1 h2 => ?_⟩
    · rw [e]; split <;> omega
    · rw [e] at h; split at h
      · assumption
      · omega
    · rw [e]; split <;> omega
    · rw [e] at h; split at h <;> omega
    · rw [e] at h1 h2; split at h1 <;> omega
  | d + 1 => by
    have I := lev_inv m L T s d
    have e := lev_next m L T s d
    generalize levF m L T s d = f at *
    generalize levF m L T s (d + 1) = g at *
    have old : ∀ x, 0 ≤ f x → g x = f x := fun x h => by rw [e, if_pos h]
    have new : ∀ x, g x = f x ∨ (f x < 0 ∧ g x = (d : Int) + 1 ∧ hitB L T d f m x = true) := fun x => by
      rw [e]
      by_cases h : 0 ≤ f x
      · rw [if_pos h]; exact .inl rfl
      · rw [if_neg h]
        cases hh : hitB L T d f m x
        · exact .inl rfl
        · exact .inr ⟨by omega, rfl, rfl⟩
    refine ⟨fun x => ?_, ?_, fun x h => ?_, fun x => ?_, fun x h => ?_, fun v u hv ha h1 h2 => ?_⟩
    · have := I.low x
      rcases new x with h | ⟨_, h, _⟩ <;> omega
    · rw [old s (by rw [I.src]; omega)]; exact I.src
    · rcases new x with h1 | ⟨_, h1, _⟩
      · exact I.zero x (by omega)
      · omega
    · have := I.hi x
      rcases new x with h | ⟨_, h, _⟩ <;> omega
    · rcases new x with h1 | ⟨_, h1, h2⟩
      · obtain ⟨v, hv, h3, h4⟩ := I.pred x (by omega)
        exact ⟨v, hv, by rw [old v (by omega)]; omega, h4⟩
      · obtain ⟨v, hv, h3, h4⟩ := (hit_iff L T d f m x).1 h2
        exact ⟨v, hv, by rw [old v (by omega)]; omega, h4⟩
    · rcases new v with h3 | ⟨_, h3, _⟩
      · by_cases h4 : f v < (d : Int)
        · obtain ⟨h5, h6⟩ := I.edge v u hv ha (by omega) h4
          rw [old u h5]
          exact ⟨h5, by omega⟩
        · have h5 := I.hi v
          have hh : hitB L T d f m u = true := (hit_iff L T d f m u).2 ⟨v, hv, by omega, ha⟩
          have h6 := I.hi u
          rcases new u with h7 | ⟨_, h7, _⟩
          · rw [e u] at h7
            by_cases h8 : 0 ≤ f u
            · rw [old u h8]; exact ⟨h8, by omega⟩
            · rw [if_neg h8, if_pos hh] at h7
              omega
          · rw [h7]; omega
      · push_cast at h2
        omega
theorem far_dist (m : Nat) (L : Nat → Nat) (T : Nat → Nat → Nat) (s : Nat) : IsDist m (Adj L T) s (farF m L T s) := by
  have I := lev_inv m L T s m
  unfold farF
  refine ⟨fun x _ => I.low x, I.src, fun x _ h => I.zero x h, fun x _ h => I.pred x h, fun v u hv _ ha h => I.edge v u hv ha h (dist_lt (A := Adj L T) (fun x _ h => I.pred x h) v hv)⟩

/-! ### a search from a queue -/
structure Bfs (m : Nat) (L : Nat → Nat) (T : Nat → Nat → Nat) (s : Nat) (f : Nat → Int) (q : List Nat) : Prop where
  low : ∀ x, x < m → -1 ≤ f x
  src : f s = 0
  zero : ∀ x, x < m → f x = 0 → x = s
  pred : ∀ x, x < m → 0 < f x → ∃ v, v < m ∧ f v = f x - 1 ∧ Adj L T v x
  inq : ∀ x, x ∈ q → x < m ∧ 0 ≤ f x
  done : ∀ x, x < m → 0 ≤ f x → x ∈ q ∨ ∀ u, u < m → Adj L T x u → 0 ≤ f u ∧ f u ≤ f x + 1
  sort : q.Pairwise (fun a b => f a ≤ f b)
  top : ∀ x h r, x < m → q = h :: r → f x ≤ f h + 1
theorem Bfs.start {m : Nat} {L : Nat → Nat} {T : Nat → Nat → Nat} {s : Nat} (hs : s < m) : Bfs m L T s (fun x => if x = s then 0 else -1) [s] := by
  refine ⟨fun x _ => by (try dsimp only); split <;> omega, by simp, fun x _ h => ?_, fun x _ h => ?_, fun x h => ?_, fun x _ h => ?_, by simp, fun x h r _ e => ?_⟩
  · (try dsimp only at h); split at h
    · assumption
    · omega
  · (try dsimp only at h); split at h <;> omega
  · simp at h; subst h; simp [hs]
  · (try dsimp only at h); split at h
    · rename_i e; subst e; simp
    · omega
  · cases e
    (try dsimp only)
    split <;> simp
theorem Bfs.finish {m : Nat} {L : Nat → Nat} {T : Nat → Nat → Nat} {s : Nat} {f : Nat → Int} (h : Bfs m L T s f []) : IsDist m (Adj L T) s f :=
  ⟨h.low, h.src, h.zero, h.pred, fun v u hv hu ha h0 => by
    rcases h.done v hv h0 with h1 | h1
    · cases h1
    · exact h1 u hu ha⟩
theorem Bfs.pop {m : Nat} {L : Nat → Nat} {T : Nat → Nat → Nat} {s v : Nat} {r : List Nat} {f : Nat → Int} (h : Bfs m L T s f (v :: r)) (hd : ∀ p, p < L v → 0 ≤ f (T v p) ∧ f (T v p) ≤ f v + 1) : Bfs m L T s f r := by
  refine ⟨h.low, h.src, h.zero, h.pred, fun x hx => h.inq x (List.mem_cons_of_mem _ hx), fun x hx h0 => ?_, (List.pairwise_cons.1 h.sort).2, fun x h' r' hx e => ?_⟩
  · rcases h.done x hx h0 with h1 | h1
    · rcases List.mem_cons.1 h1 with h2 | h2
      · subst h2
        refine .inr fun u _ ha => ?_
        obtain ⟨p, hp, e⟩ := ha
        have := hd p hp
        rwa [e] at this
      · exact .inl h2
    · exact .inr h1
  · have h1 := h.top x v r hx rfl
    have h2 := (List.pairwise_cons.1 h.sort).1 h' (by rw [e]; exact List.mem_cons_self)
    omega
theorem Bfs.push {m : Nat} {L : Nat → Nat} {T : Nat → Nat → Nat} {s v u : Nat} {r : List Nat} {f : Nat → Int} (h : Bfs m L T s f (v :: r)) (ha : Adj L T v u) (hu : u < m) (hn : f u < 0) : Bfs m L T s (fun x => if x = u then f v + 1 else f x) (v :: r ++ [u]) := by
  have hv := h.inq v List.mem_cons_self
  have at_u : ∀ x, 0 ≤ f x → (if x = u then f v + 1 else f x) = f x := fun x h0 => if_neg (fun e => by subst e; omega)
  refine ⟨fun x hx => ?_, ?_, fun x hx h0 => ?_, fun x hx h0 => ?_, fun x hx => ?_, fun x hx h0 => ?_, ?_, fun x h' r' hx e => ?_⟩
  · have := h.low x hx
    (try dsimp only); split <;> omega
  · (try dsimp only)
    rw [at_u s (by rw [h.src]; omega)]; exact h.src
  · (try dsimp only at h0)
    split at h0
    · omega
    · exact h.zero x hx h0
  · (try dsimp only at h0 ⊢)
    split at h0
    · rename_i e
      refine ⟨v, hv.1, ?_, by rw [e]; exact ha⟩
      rw [at_u v hv.2, if_pos e]; omega
    · rename_i e
      obtain ⟨v', h1, h2, h3⟩ := h.pred x hx h0
      exact ⟨v', h1, by rw [at_u v' (by omega), if_neg e, h2], h3⟩
  · rcases List.mem_append.1 hx with h1 | h1
    · have := h.inq x h1
      exact ⟨this.1, by (try dsimp only); rw [at_u x this.2]; exact this.2⟩
    · simp at h1
      subst h1
      exact ⟨hu, by (try dsimp only); rw [if_pos rfl]; omega⟩
  · (try dsimp only at h0 ⊢)
    by_cases e : x = u
    · exact .inl (by rw [e]; simp)
    · rw [if_neg e] at h0
      rcases h.done x hx h0 with h1 | h1
      · exact .inl (List.mem_append_left _ h1)
      · refine .inr fun u' hu' ha' => ?_
        have h2 := h1 u' hu' ha'
        rw [at_u u' h2.1, if_neg e]
        exact h2
  · rw [List.pairwise_append]
    refine ⟨?_, by simp, fun a ha' b hb => ?_⟩
    · refine List.Pairwise.imp_of_mem (fun {a b} h1 h2 h3 => ?_) h.sort
      (try dsimp only)
      rw [at_u a (h.inq a h1).2, at_u b (h.inq b h2).2]
      exact h3
    · simp at hb
      subst hb
      (try dsimp only)
      rw [at_u a (h.inq a ha').2, if_pos rfl]
      exact h.top a v r (h.inq a ha').1 rfl
  · cases e
    (try dsimp only)
    rw [at_u v hv.2]
    have := h.top x v r hx rfl
    split <;> omega
/-- How many of the first n are below 0. -/
def negs (f : Nat → Int) : Nat → Nat
  | 0 => 0
  | n + 1 => negs f n + (if f n < 0 then 1 else 0)
theorem negs_same (f g : Nat → Int) : ∀ n, (∀ x, x < n → (f x < 0 ↔ g x < 0)) → negs f n = negs g n
  | 0, _ => rfl
  | n + 1, h => by
    unfold negs
    rw [negs_same f g n (fun x hx => h x (by omega))]
    have := h n (by omega)
    by_cases h1 : f n < 0
    · rw [if_pos h1, if_pos (this.1 h1)]
    · rw [if_neg h1, if_neg (fun h2 => h1 (this.2 h2))]
theorem negs_set (f : Nat → Int) (u : Nat) (c : Int) (hn : f u < 0) (hc : 0 ≤ c) : ∀ n, u < n → negs (fun x => if x = u then c else f x) n + 1 = negs f n
  | 0, h => absurd h (Nat.not_lt_zero _)
  | n + 1, h => by
    unfold negs
    by_cases e : u = n
    · subst e
      rw [negs_same (fun x => if x = u then c else f x) f u (fun x hx => by (try dsimp only); rw [if_neg (by omega)])]
      rw [if_pos rfl, if_pos hn, if_neg (by omega)]
    · have := negs_set f u c hn hc n (by omega)
      have e2 : ¬ n = u := fun h => e h.symm
      simp only [if_neg e2]
      omega
theorem negs_le (f : Nat → Int) : ∀ n, negs f n ≤ n
  | 0 => Nat.le_refl _
  | n + 1 => by
    unfold negs
    have := negs_le f n
    split <;> omega
end Go.Proofs.Ytpgipkcbdppplaa
