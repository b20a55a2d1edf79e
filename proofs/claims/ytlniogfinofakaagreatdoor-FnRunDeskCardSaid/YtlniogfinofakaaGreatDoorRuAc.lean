/-
  Equal lists, and equal views, are found equal. Condition: lengths at most 2^40.
-/
import Derived.Test.YtlniogfinofakaaGreatDoorRuAa
import Derived.Test.YtlniogfinofakaaGreatDoorRows
import Derived.Deep.QuietTactic
import Derived.BigQuiet
import Derived.Deep.RegionHeld3
import Derived.Test.YtlniogfinofakaaGreatDoorRuAb
namespace Go.Proofs.YtlniogfinofakaaGreatDoor
set_option maxRecDepth 100000
open Go.RowKit

end Go.Proofs.YtlniogfinofakaaGreatDoor
/-
  The contracts of the look: same, knows, all: over whatever view with at most 16 worlds lies in memory. Conditions: each row has a number for each world.
-/
namespace Go.Proofs.YtlniogfinofakaaGreatDoor
set_option maxRecDepth 100000
open Go.RowKit

/-- The worlds below W in which a sees the same as in v. -/
def sameB (x : Nat → Nat → Int) (W a v : Nat) : Nat := maskB (fun u => x a u == x a v) W
/-- The worlds below W in which a knows s. -/
def knowsB (x : Nat → Nat → Int) (W a s : Nat) : Nat := maskB (fun v => sameB x W a v &&& (18446744073709551615 - s) == 0) W
/-- The worlds in which the first k know s. -/
def allB (x : Nat → Nat → Int) (W s : Nat) : Nat → Nat
  | 0 => maskB (fun _ => true) W
  | k + 1 => allB x W s k &&& knowsB x W k s
theorem knowsB_lt (x : Nat → Nat → Int) (W a s : Nat) (h : W ≤ 16) : knowsB x W a s < 131072 := maskB_lt16 _ _ (by omega)
theorem sameB_lt (x : Nat → Nat → Int) (W a s : Nat) (h : W ≤ 16) : sameB x W a s < 131072 := maskB_lt16 _ _ (by omega)
theorem allB_lt (x : Nat → Nat → Int) (W s k : Nat) (h : W ≤ 16) : allB x W s k < 131072 := by
  induction k with
  | zero => exact maskB_lt16 _ _ (by omega)
  | succ k ih => exact Nat.lt_of_le_of_lt Nat.and_le_left ih

theorem cell_b1 (w : World) (o1 o2 o3 : Obj) (u v : Value) (T : TypeId) (h : o1 = .cells #[u, v] T) : (((w.alloc o1).alloc o2).alloc o3).cell? ⟨w.heap.size, 1, none⟩ = some v := by
  subst h
  rw [World.cell?_alloc_past _ _ _ (by simp; omega), World.cell?_alloc_past _ _ _ (by simp), World.cell?_alloc_at _ _ _ _ rfl]; rfl
theorem cell_b0 (w : World) (o1 o2 o3 : Obj) (u v : Value) (T : TypeId) (h : o1 = .cells #[u, v] T) : (((w.alloc o1).alloc o2).alloc o3).cell? ⟨w.heap.size, 0, none⟩ = some u := by
  subst h
  rw [World.cell?_alloc_past _ _ _ (by simp; omega), World.cell?_alloc_past _ _ _ (by simp), World.cell?_alloc_at _ _ _ _ rfl]; rfl
theorem cell_b2 (w : World) (o1 o2 o3 : Obj) (u : Value) (T : TypeId) (h : o2 = .cells #[u] T) : (((w.alloc o1).alloc o2).alloc o3).cell? ⟨w.heap.size + 1, 0, none⟩ = some u := by
  subst h
  rw [World.cell?_alloc_past _ _ _ (by simp), World.cell?_alloc_at _ _ _ _ (by simp)]; rfl
theorem cell_b3 (w : World) (o1 o2 o3 : Obj) (u : Value) (T : TypeId) (h : o3 = .cells #[u] T) : (((w.alloc o1).alloc o2).alloc o3).cell? ⟨w.heap.size + 2, 0, none⟩ = some u := by
  subst h
  rw [World.cell?_alloc_at _ _ _ _ (by simp)]; rfl
theorem keeps3 (w : World) (o1 o2 o3 : Obj) : Keeps w (((w.alloc o1).alloc o2).alloc o3) := ((Keeps.alloc w o1).step (Keeps.alloc _ o2)).step (Keeps.alloc _ o3)

theorem beq0 (n : Nat) : ((n : Int) == 0) = (n == 0) := by rw [Bool.eq_iff_iff, beq_iff_eq, beq_iff_eq]; omega
set_option maxHeartbeats 400000 in
theorem same1_any (b1 b2 b3 : Nat) (A : Option Addr) (n c : Nat) (r : Nat → Option Addr × Nat × Nat) (x : Nat → Nat → Int) (a u v : Nat) (w : World) (hr : Rows w A n r x) (ha : a < n) (hu : u < (r a).2.1) (hv : v < (r a).2.1)
   (h1 : w.cell? ⟨b1, 1, none⟩ = some (.slice A n c)) (h2 : w.cell? ⟨b2, 0, none⟩ = some (.int .i64 a)) (h3 : w.cell? ⟨b3, 0, none⟩ = some (.int .i64 v)) :
    Calls Tryz.prog 171 #[.int .i64 u, .pointer (some ⟨b1, 0, none⟩), .pointer (some ⟨b2, 0, none⟩), .pointer (some ⟨b3, 0, none⟩)] w fun e w' => e = .returned (.bool (x a u == x a v)) ∧ Keeps w w' := by
  obtain ⟨⟨bA, oA, rfl, hc⟩, hi⟩ := hr a ha
  generalize hra : r a = ra at *
  obtain ⟨rA, rn, rc⟩ := ra
  clear hra
  obtain ⟨bR, oR, e, hc1⟩ := hi u hu
  dsimp only at e hc hi hu hv hc1
  subst e
  obtain ⟨_, _, e, hc2⟩ := hi v hv
  cases e
  have ha' : (a : Int) < n := by omega
  have hu' : (u : Int) < rn := by omega
  have hv' : (v : Int) < rn := by omega
  clear hr hi
  go_enter Tryz.func171, Tryz.ntmps171
  go_wp2
  go_quiet (fail)
  go_wp2
  go_ret
  exact ⟨rfl, Keeps.drewN _ _⟩

set_option maxHeartbeats 400000 in
theorem lkSame_any (A : Option Addr) (n c W : Nat) (r : Nat → Option Addr × Nat × Nat) (x : Nat → Nat → Int) (a v : Nat) (w : World) (hW : W ≤ 16) (hr : Rows w A n r x) (ha : a < n) (hrow : (r a).2.1 = W) (hv : v < W) :
    Calls Tryz.prog 153 #[.agg #[.int .i64 W, .slice A n c], .int .i64 a, .int .i64 v] w fun e w' => e = .returned (.int .i64 (sameB x W a v : Nat)) ∧ Keeps w w' := by
  have hmf : ∀ (fn : Fn) (first cap : Array Value) (w : World), (Instr.makeFunc fn first cap).run Tryz.prog w = .ok (.func fn first cap) w := fun _ _ _ _ => rfl
  have HR := Lib.hid hrow
  clear hrow
  go_enter Tryz.func153, Tryz.ntmps153
  go_wp2_with fail
  refine (filter_any 171 _ W (fun u => x a u == x a v) (fun w' => Keeps (((w.alloc (.cells #[.int .i64 W, .slice A n c] 129)).alloc (.cells #[.int .i64 a] 3)).alloc (.cells #[.int .i64 v] 3)) w') hW (fun _ _ => rfl) ?_ _ (Keeps.refl _)).mono ?_
  · intro k w1 hk hK
    refine (same1_any w.heap.size (w.heap.size + 1) (w.heap.size + 2) A n c r x a k v w1 ((hr.keeps (keeps3 _ _ _ _)).keeps hK) ha (by rw [HR.out]; exact hk) (by rw [HR.out]; exact hv) (cell_keeps hK (cell_b1 _ _ _ _ _ _ _ rfl)) (cell_keeps hK (cell_b2 _ _ _ _ _ _ rfl)) (cell_keeps hK (cell_b3 _ _ _ _ _ _ rfl))).mono ?_
    rintro e w2 ⟨rfl, h2⟩
    exact ⟨rfl, hK.step h2⟩
  · rintro e w1 ⟨rfl, h1⟩
    go_wp2
    go_ret
    exact ⟨rfl, (keeps3 _ _ _ _).step h1⟩

set_option maxHeartbeats 400000 in
theorem knows1_any (b1 b2 b3 : Nat) (A : Option Addr) (n c W : Nat) (r : Nat → Option Addr × Nat × Nat) (x : Nat → Nat → Int) (a s v : Nat) (w : World) (hW : W ≤ 16) (hr : Rows w A n r x) (ha : a < n) (hrow : (r a).2.1 = W) (hv : v < W) (hs : s < 131072)
   (h0 : w.cell? ⟨b1, 0, none⟩ = some (.int .i64 W)) (h1 : w.cell? ⟨b1, 1, none⟩ = some (.slice A n c)) (h2 : w.cell? ⟨b2, 0, none⟩ = some (.int .i64 a)) (h3 : w.cell? ⟨b3, 0, none⟩ = some (.int .i64 s)) :
    Calls Tryz.prog 152 #[.int .i64 v, .pointer (some ⟨b1, 0, none⟩), .pointer (some ⟨b2, 0, none⟩), .pointer (some ⟨b3, 0, none⟩)] w fun e w' => e = .returned (.bool (sameB x W a v &&& (18446744073709551615 - s) == 0)) ∧ Keeps w w' := by
  have hl := sameB_lt x W a v hW
  have HB := Lib.hid (bits_andNot (sameB x W a v) s (by omega) (by omega))
  have HR := Lib.hid hrow
  have HRR := Lib.hid hr
  clear hrow hr
  go_enter Tryz.func152, Tryz.ntmps152
  go_wp2
  go_region_held3 (fun w' => w'.cell? ⟨b1, 0, none⟩ = some (.int .i64 W) ∧ w'.cell? ⟨b1, 1, none⟩ = some (.slice A n c) ∧ w'.cell? ⟨b2, 0, none⟩ = some (.int .i64 a) ∧ w'.cell? ⟨b3, 0, none⟩ = some (.int .i64 s) ∧ Keeps w w') (first | exact ⟨cell_keeps hk1 g0, cell_keeps hk1 g1, cell_keeps hk1 g2, cell_keeps hk1 g3, gk.step hk1⟩ | exact ⟨h0, h1, h2, h3, Keeps.drew1 _⟩) (first | (go_at_call 153; obtain ⟨g0, g1, g2, g3, gk⟩ : _ ∧ _ ∧ _ ∧ _ ∧ Keeps w _ := (by assumption); refine (lkSame_any A n c W r x a v _ hW (HRR.out.keeps gk) ha HR.out hv).mono ?_; rintro e w1 ⟨rfl, hk1⟩))
  go_wp2
  go_ret
  exact ⟨ret_bool (by rw [HB.out]; exact beq0 _), gk.step hk1⟩

set_option maxHeartbeats 400000 in
theorem knows_any (A : Option Addr) (n c W : Nat) (r : Nat → Option Addr × Nat × Nat) (x : Nat → Nat → Int) (a s : Nat) (w : World) (hW : W ≤ 16) (hr : Rows w A n r x) (ha : a < n) (hrow : (r a).2.1 = W) (hs : s < 131072) :
    Calls Tryz.prog 120 #[.agg #[.int .i64 W, .slice A n c], .int .i64 a, .int .i64 s] w fun e w' => e = .returned (.int .i64 (knowsB x W a s : Nat)) ∧ Keeps w w' := by
  have hmf : ∀ (fn : Fn) (first cap : Array Value) (w : World), (Instr.makeFunc fn first cap).run Tryz.prog w = .ok (.func fn first cap) w := fun _ _ _ _ => rfl
  have HR := Lib.hid hrow
  clear hrow
  go_enter Tryz.func120, Tryz.ntmps120
  go_wp2_with fail
  refine (filter_any 152 _ W (fun v => sameB x W a v &&& (18446744073709551615 - s) == 0) (fun w' => Keeps (((w.alloc (.cells #[.int .i64 W, .slice A n c] 129)).alloc (.cells #[.int .i64 a] 3)).alloc (.cells #[.int .i64 s] 3)) w') hW (fun _ _ => rfl) ?_ _ (Keeps.refl _)).mono ?_
  · intro k w1 hk hK
    refine (knows1_any w.heap.size (w.heap.size + 1) (w.heap.size + 2) A n c W r x a s k w1 hW ((hr.keeps (keeps3 _ _ _ _)).keeps hK) ha HR.out hk hs (cell_keeps hK (cell_b0 _ _ _ _ _ _ _ rfl)) (cell_keeps hK (cell_b1 _ _ _ _ _ _ _ rfl)) (cell_keeps hK (cell_b2 _ _ _ _ _ _ rfl)) (cell_keeps hK (cell_b3 _ _ _ _ _ _ rfl))).mono ?_
    rintro e w2 ⟨rfl, h2⟩
    exact ⟨rfl, hK.step h2⟩
  · rintro e w1 ⟨rfl, h1⟩
    go_wp2
    go_ret
    exact ⟨rfl, (keeps3 _ _ _ _).step h1⟩

theorem lookOf_any (A : Option Addr) (n c : Nat) (W : Int) (w : World) :
    Calls Tryz.prog 92 #[.agg #[.int .i64 W, .slice A n c]] w fun e w' => e = .returned (.agg #[.int .i64 W, .slice A n c]) ∧ Keeps w w' := by
  go_enter Tryz.func92, Tryz.ntmps92
  go_wp2
  refine bodyPost_ret (v := .agg #[.int .i64 W, .slice A n c]) (by simp [results, Tryz.results92, go_sem]) rfl ⟨rfl, ?_⟩
  go_grown
end Go.Proofs.YtlniogfinofakaaGreatDoor
/-
  The contracts of ValidView and setOk (the program) and of validView and good (the reference). Condition: lengths at most 2^40.
-/
namespace Go.Proofs.YtlniogfinofakaaGreatDoor
set_option maxRecDepth 100000
open Go.RowKit

/-- A row that is not one of W numbers in 0..W-1. -/
def rowBad (W : Int) (m : Nat) (x : Nat → Int) : Bool := ((m : Int) != W) || anyB (fun j => !inB (x j) 0 (W - 1)) m
/-- Is the view valid? -/
def validB (W : Int) (n : Nat) (r : Nat → Option Addr × Nat × Nat) (x : Nat → Nat → Int) : Bool :=
  inB W 1 16 && inB n 1 4 && !anyB (fun i => rowBad W (r i).2.1 (x i)) n
theorem validB_iff (W : Int) (n : Nat) (r : Nat → Option Addr × Nat × Nat) (x : Nat → Nat → Int) :
    validB W n r x = true ↔ (1 ≤ W ∧ W ≤ 16) ∧ (1 ≤ n ∧ n ≤ 4) ∧ ∀ i, i < n → ((r i).2.1 : Int) = W ∧ ∀ j, j < (r i).2.1 → 0 ≤ x i j ∧ x i j ≤ W - 1 := by
  unfold validB
  simp only [Bool.and_eq_true, Bool.not_eq_true', anyB_false, rowBad, Bool.or_eq_false_iff, bne_eq_false_iff_eq, Bool.not_eq_false']
  constructor
  · rintro ⟨⟨h1, h2⟩, h3⟩
    have a := inB_true h1
    have b := inB_true h2
    exact ⟨a, by omega, fun i hi => ⟨(h3 i hi).1, fun j hj => inB_true ((h3 i hi).2 j hj)⟩⟩
  · rintro ⟨⟨h1, h2⟩, ⟨h3, h4⟩, h5⟩
    exact ⟨⟨inB_mk h1 h2, inB_mk (by omega) (by omega)⟩, fun i hi => ⟨(h5 i hi).1, fun j hj => inB_mk ((h5 i hi).2 j hj).1 ((h5 i hi).2 j hj).2⟩⟩


/-- Is the view valid, and s a set of its worlds? -/
def setB (W : Int) (n : Nat) (r : Nat → Option Addr × Nat × Nat) (x : Nat → Nat → Int) (s : Int) : Bool :=
  validB W n r x && inB s 0 (((2 ^ W.toNat : Nat) : Int) - 1)
theorem setB_iff (W : Int) (n : Nat) (r : Nat → Option Addr × Nat × Nat) (x : Nat → Nat → Int) (s : Int) (h : setB W n r x s = true) :
    ∃ V S : Nat, W = V ∧ s = S ∧ 1 ≤ V ∧ V ≤ 16 ∧ (1 ≤ n ∧ n ≤ 4) ∧ S < 2 ^ V ∧ S < 131072 ∧ ∀ i, i < n → (r i).2.1 = V ∧ ∀ j, j < V → 0 ≤ x i j ∧ x i j < V := by
  unfold setB at h
  rw [Bool.and_eq_true] at h
  obtain ⟨hv, hs⟩ := h
  obtain ⟨⟨h1, h2⟩, h3, h4⟩ := (validB_iff W n r x).1 hv
  obtain ⟨h5, h6⟩ := inB_true hs
  obtain ⟨V, rfl⟩ := Int.eq_ofNat_of_zero_le (show 0 ≤ W by omega)
  obtain ⟨S, rfl⟩ := Int.eq_ofNat_of_zero_le h5
  rw [Int.toNat_natCast] at h6
  have hp : 2 ^ V ≤ 2 ^ 16 := Nat.pow_le_pow_right (by omega) (by omega)
  refine ⟨V, S, rfl, rfl, by omega, by omega, h3, by omega, by omega, fun i hi => ?_⟩
  obtain ⟨h7, h8⟩ := h4 i hi
  exact ⟨by omega, fun j hj => by have := h8 j (by omega); omega⟩

end Go.Proofs.YtlniogfinofakaaGreatDoor
/-
  The contracts of KnowsOf, AllKnow, CommonOf, DepthOf of the program. Condition: lengths at most 2^40.
-/
namespace Go.Proofs.YtlniogfinofakaaGreatDoor
set_option maxRecDepth 100000
open Go.RowKit

/-- From s on, s & f s again and again until it stays. -/
def comF (f : Nat → Nat) : Nat → Nat → Nat
  | 0, s => s
  | k + 1, s => if s &&& f s = s then s else comF f k (s &&& f s)
def comB (f : Nat → Nat) (s : Nat) : Nat := comF f s s
theorem comF_more (f : Nat → Nat) (k : Nat) : ∀ (j s : Nat), s ≤ k → s ≤ j → comF f k s = comF f j s := by
  induction k with
  | zero =>
    intro j s hk hj
    have : s = 0 := by omega
    subst this
    cases j with
    | zero => rfl
    | succ j => simp [comF]
  | succ k ih =>
    intro j s hk hj
    cases j with
    | zero =>
      have : s = 0 := by omega
      subst this
      simp [comF]
    | succ j =>
      simp only [comF]
      split
      · rfl
      · rename_i h
        have : s &&& f s ≤ s := Nat.and_le_left
        exact ih j _ (by omega) (by omega)
theorem comB_stay (f : Nat → Nat) (s : Nat) (h : s &&& f s = s) : comB f s = s := by
  unfold comB
  cases s with
  | zero => rfl
  | succ s => simp [comF, h]
theorem comB_step (f : Nat → Nat) (s : Nat) : comB f (s &&& f s) = comB f s := by
  by_cases h : s &&& f s = s
  · rw [h]
  · have hl : s &&& f s ≤ s := Nat.and_le_left
    unfold comB
    cases s with
    | zero => simp at h
    | succ s =>
      rw [show comF f (s + 1) (s + 1) = comF f s ((s + 1) &&& f (s + 1)) from by simp only [comF]; rw [if_neg h]]
      exact comF_more f _ _ _ (Nat.le_refl _) (by omega)
/-- How often f may be asked so that w is in the answer each time, at most k times. -/
def depF (f : Nat → Nat) (w : Nat) : Nat → Nat → Nat
  | 0, _ => 0
  | k + 1, s => if (f s).testBit w then depF f w k (f s) + 1 else 0

def allAns (W : Int) (n : Nat) (r : Nat → Option Addr × Nat × Nat) (x : Nat → Nat → Int) (s : Int) : Int :=
  if setB W n r x s then ((allB x W.toNat s.toNat n : Nat) : Int) else -1
def knowsAns (W : Int) (n : Nat) (r : Nat → Option Addr × Nat × Nat) (x : Nat → Nat → Int) (a s : Int) : Int :=
  if setB W n r x s && inB a 0 ((n : Int) - 1) then ((knowsB x W.toNat a.toNat s.toNat : Nat) : Int) else -1
def comAns (W : Int) (n : Nat) (r : Nat → Option Addr × Nat × Nat) (x : Nat → Nat → Int) (s : Int) : Int :=
  if setB W n r x s then ((comB (fun s => allB x W.toNat s n) s.toNat : Nat) : Int) else -1
def depAns (W : Int) (n : Nat) (r : Nat → Option Addr × Nat × Nat) (x : Nat → Nat → Int) (v s : Int) : Int :=
  if setB W n r x s && inB v 0 (W - 1) then ((depF (fun s => allB x W.toNat s n) v.toNat 20 s.toNat : Nat) : Int) else -1

end Go.Proofs.YtlniogfinofakaaGreatDoor
/-
  The contracts of the reference's validView, good, knows, all, common, AllKnow, CommonOf, DepthOf: they answer what the program's answer. Condition: lengths at most 2^40.
-/
namespace Go.Proofs.YtlniogfinofakaaGreatDoor
set_option maxRecDepth 100000
open Go.RowKit

theorem sym {P : Program} {f : Nat} {args : Array Value} {w : World} {v : Value} (h : Calls P f args w fun e w' => e = .returned v ∧ w = w') : Calls P f args w fun e w' => e = .returned v ∧ w' = w :=
  h.mono fun _ _ ⟨a, b⟩ => ⟨a, b.symm⟩
theorem validB_row {W : Int} {n : Nat} {r : Nat → Option Addr × Nat × Nat} {x : Nat → Nat → Int} {k : Nat} (hk : k < n) (h : rowBad W (r k).2.1 (x k) = true) : false = validB W n r x := by
  unfold validB
  rw [(anyB_iff _ n).2 ⟨k, hk, h⟩]
  simp
theorem rowBad_len {W : Int} {m : Nat} {x : Nat → Int} (h : ((m : Int) != W) = true) : rowBad W m x = true := by unfold rowBad; rw [h]; rfl
theorem rowBad_el {W : Int} {m : Nat} {x : Nat → Int} {j : Nat} (hj : j < m) (h : inB (x j) 0 (W - 1) = false) : rowBad W m x = true := by
  unfold rowBad; rw [(anyB_iff _ m).2 ⟨j, hj, by simp [h]⟩]; simp
theorem rowBad_not {W : Int} {m : Nat} {x : Nat → Int} (h : ((m : Int) != W) = false) (hj : ∀ j, j < m → inB (x j) 0 (W - 1) = true) : rowBad W m x = false := by
  unfold rowBad; rw [h, (anyB_false _ m).2 fun j h => by simp [hj j h]]; rfl
theorem validB_all {W : Int} {n : Nat} {r : Nat → Option Addr × Nat × Nat} {x : Nat → Nat → Int} (h1 : inB W 1 16 = true) (h2 : inB n 1 4 = true) (h : ∀ k, k < n → rowBad W (r k).2.1 (x k) = false) : true = validB W n r x := by
  unfold validB
  rw [h1, h2, (anyB_false _ n).2 h]
  simp


theorem maskB_add (p : Nat → Bool) (k : Nat) : maskB p k + 2 ^ k = maskB p k ||| 2 ^ k := by
  have h := Nat.two_pow_add_eq_or_of_lt (maskB_lt p k) 1
  rw [Nat.mul_one] at h
  rw [Nat.or_comm, ← h, Nat.add_comm]
theorem and_zero_iff (m k : Nat) : ((m &&& k) == 0) = true ↔ ∀ i, m.testBit i = true → k.testBit i = false := by
  rw [beq_iff_eq]
  constructor
  · intro h i hm
    have : (m &&& k).testBit i = false := by rw [h]; simp
    rw [Nat.testBit_and, hm] at this
    simpa using this
  · intro h
    apply Nat.eq_of_testBit_eq
    intro i
    rw [Nat.testBit_and, Nat.zero_testBit]
    cases hm : m.testBit i
    · rfl
    · simp [h i hm]
/-- What stands against a's knowing s in v: a world below W that looks the same and is not in s. -/
def against (x : Nat → Nat → Int) (a s v : Nat) (u : Nat) : Bool := (x a u == x a v) && !s.testBit u
theorem knows_pt (x : Nat → Nat → Int) (W a s v : Nat) (hW : W ≤ 16) (hs : s < 131072) : (sameB x W a v &&& (18446744073709551615 - s) == 0) = !anyB (against x a s v) W := by
  have hl := sameB_lt x W a v hW
  rw [Bool.eq_iff_iff, beq_iff_eq, Bool.not_eq_true', anyB_false]
  constructor
  · intro h i hi
    have h2 : (sameB x W a v &&& (18446744073709551615 - s)).testBit i = false := by rw [h]; simp
    rw [testBit_andNot _ _ _ (by omega) (by omega), sameB, maskB_testBit, decide_eq_true hi] at h2
    simpa [against] using h2
  · intro h
    apply Nat.eq_of_testBit_eq
    intro i
    rw [testBit_andNot _ _ _ (by omega) (by omega), sameB, maskB_testBit, Nat.zero_testBit]
    by_cases hi : i < W
    · have := h i hi
      simpa [against, hi] using this
    · simp [hi]
theorem knowsB_pt (x : Nat → Nat → Int) (W a s : Nat) (hW : W ≤ 16) (hs : s < 131072) : knowsB x W a s = maskB (fun v => !anyB (against x a s v) W) W :=
  maskB_congr fun v _ => knows_pt x W a s v hW hs
theorem any_next {p : Nat → Bool} {m : Nat} {b : Bool} (h : p m = b) : (!anyB p (m + 1)) = (!anyB p m && !b) := by
  rw [← h]; simp [anyB]
set_option maxHeartbeats 1000000 in
theorem sknows_any (A : Option Addr) (n c W : Nat) (r : Nat → Option Addr × Nat × Nat) (x : Nat → Nat → Int) (a s : Nat) (w : World) (hW : W ≤ 16) (hr : Rows w A n r x) (ha : a < n) (hrow : (r a).2.1 = W) (hs : s < 131072) :
    Calls Tryz.prog 59 #[.agg #[.int .i64 W, .slice A n c], .int .i64 a, .int .i64 s] w fun e w' => e = .returned (.int .i64 (knowsB x W a s : Nat)) ∧ Keeps w w' := by
  have HV := Lib.hid (knowsB_pt x W a s hW hs)
  obtain ⟨⟨bA, oA, e, hc⟩, hi⟩ := hr a ha
  subst e
  clear hr
  generalize r a = ra at *
  obtain ⟨rA, rn, rc⟩ := ra
  dsimp only at hc hi hrow
  subst hrow
  have HI := Lib.hid hi
  clear hi
  have ha' : (a : Int) < n := by omega
  go_enter Tryz.func59, Tryz.ntmps59
  go_wp2_with fail
  go_loopw [7, 8, 9, 10] (fun o i _ _ wr => ∃ k : Nat, k ≤ rn ∧ o = .int .i64 (maskB (fun v => !anyB (against x a s v) rn) k : Nat) ∧ i = .int .i64 k ∧ Keeps (w.alloc (.cells #[.int .i64 rn, .slice (some ⟨bA, oA, none⟩) n c] 93)) wr) (fun _ i _ _ _ => rn - (intOf i).toNat)
  case atStart => exact ⟨0, by omega, rfl, rfl, Keeps.refl _⟩
  case round =>
    obtain ⟨k, hk, rfl, rfl, hKr⟩ := hrel
    have hd0 := cell_keeps hKr (box0 w (.int .i64 rn) (.slice (some ⟨bA, oA, none⟩) n c) 93)
    have hd1 := cell_keeps hKr (box1 w (.int .i64 rn) (.slice (some ⟨bA, oA, none⟩) n c) 93)
    have hce := cell_keeps ((Keeps.alloc _ _).step hKr) hc
    by_cases hlt : k < rn
    · have hlt' : (k : Int) < rn := by omega
      obtain ⟨bR, oR, e, hck⟩ := HI.out k hlt
      subst e
      have hck' := cell_keeps ((Keeps.alloc _ _).step hKr) hck
      have hml := maskB_lt16 (fun v => !anyB (against x a s v) rn) k (by omega)
      have HM : Hid (maskB (fun v => !anyB (against x a s v) rn) (k + 1) = if (!anyB (against x a s k) rn) then maskB (fun v => !anyB (against x a s v) rn) k ||| 2 ^ k else maskB (fun v => !anyB (against x a s v) rn) k) := Lib.hid rfl
      have HADD := Lib.hid (maskB_add (fun v => !anyB (against x a s v) rn) k)
      generalize maskB (fun v => !anyB (against x a s v) rn) k = mk at *
      have hpk : 2 ^ k ≤ 65536 := Nat.le_trans (Nat.pow_le_pow_right (by omega) (show k ≤ 16 by omega)) (by omega)
      go_wp2_with fail
      obtain ⟨wo, rfl⟩ : ∃ wo : World, wo = wr := ⟨_, rfl⟩
      go_loopw [9, 10] (fun o i wr => ∃ m : Nat, m ≤ rn ∧ o = .bool (!anyB (against x a s k) m) ∧ i = .int .i64 m ∧ Keeps wo wr) (fun _ i _ => rn - (intOf i).toNat)
      case atStart => exact ⟨0, by omega, rfl, rfl, Keeps.refl _⟩
      case round =>
        obtain ⟨m, hm, rfl, rfl, hKq⟩ := hrel
        have he0 := cell_keeps hKq hd0
        have he1 := cell_keeps hKq hd1
        have hee := cell_keeps hKq hce
        have hek := cell_keeps hKq hck'
        by_cases hmt : m < rn
        · have hmt' : (m : Int) < rn := by omega
          obtain ⟨bR', oR', e, hcm⟩ := HI.out m hmt
          cases e
          have hcm' := cell_keeps (((Keeps.alloc _ _).step hKr).step hKq) hcm
          clear hcm
          have HN : Hid (∀ b, against x a s k m = b → (!anyB (against x a s k) (m + 1)) = (!anyB (against x a s k) m && !b)) := Lib.hid (fun b h => any_next h)
          cases hq : (!anyB (against x a s k) m)
          · have HQ : Hid ((!anyB (against x a s k) (m + 1)) = false) := Lib.hid (by rw [any_next rfl, hq]; rfl)
            clear hq
            go_wp2_with fail
            go_quiet (fail)
            go_wp2
            go_roundw
            case rel => exact ⟨m + 1, by omega, by rw [HQ.out], by go_num, hKq.step (Keeps.drewN _ _)⟩
            case measure => simp [intOf]; omega
          · cases hx : (x a m != x a k)
            · cases ht : s.testBit m
              · have HQ : Hid ((!anyB (against x a s k) (m + 1)) = false) := Lib.hid (by rw [any_next rfl, hq]; simp [against, ht]; simpa using hx)
                have HT := Lib.hid ht
                clear hq ht
                go_wp2_with fail
                go_quiet ((go_at_call 58; exact Calls.quiet_of_same (sym (sbit_any _ _ _ (by omega) (by omega)))))
                rw [HT.out]
                go_wp2
                go_roundw
                case rel => exact ⟨m + 1, by omega, by rw [HQ.out]; rfl, by go_num, hKq.step (Keeps.drewN _ _)⟩
                case measure => simp [intOf]; omega
              · have HQ : Hid ((!anyB (against x a s k) (m + 1)) = true) := Lib.hid (by rw [any_next rfl, hq]; simp [against, ht])
                have HT := Lib.hid ht
                clear hq ht
                go_wp2_with fail
                go_quiet ((go_at_call 58; exact Calls.quiet_of_same (sym (sbit_any _ _ _ (by omega) (by omega)))))
                rw [HT.out]
                go_wp2
                go_roundw
                case rel => exact ⟨m + 1, by omega, by rw [HQ.out]; rfl, by go_num, hKq.step (Keeps.drewN _ _)⟩
                case measure => simp [intOf]; omega
            · have HQ : Hid ((!anyB (against x a s k) (m + 1)) = true) := Lib.hid (by rw [any_next rfl, hq]; simp [against]; left; simpa using hx)
              clear hq
              go_wp2_with fail
              go_quiet (fail)
              go_wp2
              go_roundw
              case rel => exact ⟨m + 1, by omega, by rw [HQ.out], by go_num, hKq.step (Keeps.drewN _ _)⟩
              case measure => simp [intOf]; omega
        · have : m = rn := by omega
          subst this
          cases hq : (!anyB (against x a s k) m)
          · have HQ := Lib.hid hq
            clear hq
            go_wp2
            go_roundw
            case rel => exact ⟨k + 1, by omega, by rw [HM.out, HQ.out]; rfl, by go_num, hKr.step hKq⟩
            case measure => simp [intOf]; omega
          · have HQ := Lib.hid hq
            clear hq
            go_wp2_with fail
            refine (spower_any k _ (by omega)).mono ?_
            rintro e w2 ⟨rfl, rfl⟩
            generalize 2 ^ k = pk at *
            go_wp2
            go_roundw
            case rel => exact ⟨k + 1, by omega, by rw [HM.out, HQ.out, if_pos rfl, ← HADD.out]; go_num, by go_num, hKr.step hKq⟩
            case measure => simp [intOf]; omega
    · have : k = rn := by omega
      subst this
      go_wp2
      go_ret
      exact ⟨ret_int (by rw [HV.out]), (Keeps.alloc _ _).step hKr⟩
end Go.Proofs.YtlniogfinofakaaGreatDoor
