/-
  The contracts of the look: same, knows, all: over whatever view with at most 16 worlds lies in memory. Conditions: each row has a number for each world.
-/
import Derived.Test.YtalafojkmomolaaFilter
import Derived.Deep.QuietTactic
import Derived.BigQuiet
import Derived.Deep.RegionHeld3
namespace Go.Proofs.Ytalafojkmomolaa
open Go.RowKit

/-- The worlds below W in which a sees the same as in v. -/
def sameB (x : Nat → Nat → Int) (W a v : Nat) : Nat := maskB (fun u => x a u == x a v) W
/-- The worlds below W in which a knows s. -/
def knowsB (x : Nat → Nat → Int) (W a s : Nat) : Nat := maskB (fun v => sameB x W a v &&& (18446744073709551615 - s) == 0) W
/-- The worlds in which the first k know s. -/
def allB (x : Nat → Nat → Int) (W s : Nat) : Nat → Nat
  | 0 => maskB (fun _ => true) W
  | k + 1 => allB x W s k &&& knowsB x W k s
theorem knowsB_lt (x : Nat → Nat → Int) (W a s : Nat) (h : W ≤ 16) : knowsB x W a s < 131072 := maskB_lt16 _ _ (by omega)
theorem sameB_lt (x : Nat → Nat → Int) (W a s : Nat) (h : W ≤ 16) : sameB x W a s < 131072 := maskB_lt16 _ _ (by omega)
theorem allB_lt (x : Nat → Nat → Int) (W s k : Nat) (h : W ≤ 16) : allB x W s k < 131072 := by
  induction k with
  | zero => exact maskB_lt16 _ _ (by omega)
  | succ k ih => exact Nat.lt_of_le_of_lt Nat.and_le_left ih

theorem cell_b1 (w : World) (o1 o2 o3 : Obj) (u v : Value) (T : TypeId) (h : o1 = .cells #[u, v] T) : (((w.alloc o1).alloc o2).alloc o3).cell? ⟨w.heap.size, 1, none⟩ = some v := by
  subst h
  rw [World.cell?_alloc_past _ _ _ (by simp; omega), World.cell?_alloc_past _ _ _ (by simp), World.cell?_alloc_at _ _ _ _ rfl]; rfl
theorem cell_b0 (w : World) (o1 o2 o3 : Obj) (u v : Value) (T : TypeId) (h : o1 = .cells #[u, v] T) : (((w.alloc o1).alloc o2).alloc o3).cell? ⟨w.heap.size, 0, none⟩ = some u := by
  subst h
  rw [World.cell?_alloc_past _ _ _ (by simp; omega), World.cell?_alloc_past _ _ _ (by simp), World.cell?_alloc_at _ _ _ _ rfl]; rfl
theorem cell_b2 (w : World) (o1 o2 o3 : Obj) (u : Value) (T : TypeId) (h : o2 = .cells #[u] T) : (((w.alloc o1).alloc o2).alloc o3).cell? ⟨w.heap.size + 1, 0, none⟩ = some u := by
  subst h
  rw [World.cell?_alloc_past _ _ _ (by simp), World.cell?_alloc_at _ _ _ _ (by simp)]; rfl
theorem cell_b3 (w : World) (o1 o2 o3 : Obj) (u : Value) (T : TypeId) (h : o3 = .cells #[u] T) : (((w.alloc o1).alloc o2).alloc o3).cell? ⟨w.heap.size + 2, 0, none⟩ = some u := by
  subst h
  rw [World.cell?_alloc_at _ _ _ _ (by simp)]; rfl
theorem keeps3 (w : World) (o1 o2 o3 : Obj) : Keeps w (((w.alloc o1).alloc o2).alloc o3) := ((Keeps.alloc w o1).step (Keeps.alloc _ o2)).step (Keeps.alloc _ o3)

theorem beq0 (n : Nat) : ((n : Int) == 0) = (n == 0) := by rw [Bool.eq_iff_iff, beq_iff_eq, beq_iff_eq]; omega
set_option maxHeartbeats 400000 in
theorem same1_any (b1 b2 b3 : Nat) (A : Option Addr) (n c : Nat) (r : Nat → Option Addr × Nat × Nat) (x : Nat → Nat → Int) (a u v : Nat) (w : World) (hr : Rows w A n r x) (ha : a < n) (hu : u < (r a).2.1) (hv : v < (r a).2.1)
   (h1 : w.cell? ⟨b1, 1, none⟩ = some (.slice A n c)) (h2 : w.cell? ⟨b2, 0, none⟩ = some (.int .i64 a)) (h3 : w.cell? ⟨b3, 0, none⟩ = some (.int .i64 v)) :
    Calls Try.prog 76 #[.int .i64 u, .pointer (some ⟨b1, 0, none⟩), .pointer (some ⟨b2, 0, none⟩), .pointer (some ⟨b3, 0, none⟩)] w fun e w' => e = .returned (.bool (x a u == x a v)) ∧ Keeps w w' := by
  obtain ⟨⟨bA, oA, rfl, hc⟩, hi⟩ := hr a ha
  generalize hra : r a = ra at *
  obtain ⟨rA, rn, rc⟩ := ra
  clear hra
  obtain ⟨bR, oR, e, hc1⟩ := hi u hu
  dsimp only at e hc hi hu hv hc1
  subst e
  obtain ⟨_, _, e, hc2⟩ := hi v hv
  cases e
  have ha' : (a : Int) < n := by omega
  have hu' : (u : Int) < rn := by omega
  have hv' : (v : Int) < rn := by omega
  clear hr hi
  go_enter Try.func76, Try.ntmps76
  go_wp2
  go_quiet (fail)
  go_wp2
  go_ret
  exact ⟨rfl, Keeps.drewN _ _⟩

set_option maxHeartbeats 400000 in
theorem lkSame_any (A : Option Addr) (n c W : Nat) (r : Nat → Option Addr × Nat × Nat) (x : Nat → Nat → Int) (a v : Nat) (w : World) (hW : W ≤ 16) (hr : Rows w A n r x) (ha : a < n) (hrow : (r a).2.1 = W) (hv : v < W) :
    Calls Try.prog 66 #[.agg #[.int .i64 W, .slice A n c], .int .i64 a, .int .i64 v] w fun e w' => e = .returned (.int .i64 (sameB x W a v : Nat)) ∧ Keeps w w' := by
  have hmf : ∀ (fn : Fn) (first cap : Array Value) (w : World), (Instr.makeFunc fn first cap).run Try.prog w = .ok (.func fn first cap) w := fun _ _ _ _ => rfl
  have HR := Lib.hid hrow
  clear hrow
  go_enter Try.func66, Try.ntmps66
  go_wp2_with fail
  refine (filter_any 76 _ W (fun u => x a u == x a v) (fun w' => Keeps (((w.alloc (.cells #[.int .i64 W, .slice A n c] 49)).alloc (.cells #[.int .i64 a] 3)).alloc (.cells #[.int .i64 v] 3)) w') hW (fun _ _ => rfl) ?_ _ (Keeps.refl _)).mono ?_
  · intro k w1 hk hK
    refine (same1_any w.heap.size (w.heap.size + 1) (w.heap.size + 2) A n c r x a k v w1 ((hr.keeps (keeps3 _ _ _ _)).keeps hK) ha (by rw [HR.out]; exact hk) (by rw [HR.out]; exact hv) (cell_keeps hK (cell_b1 _ _ _ _ _ _ _ rfl)) (cell_keeps hK (cell_b2 _ _ _ _ _ _ rfl)) (cell_keeps hK (cell_b3 _ _ _ _ _ _ rfl))).mono ?_
    rintro e w2 ⟨rfl, h2⟩
    exact ⟨rfl, hK.step h2⟩
  · rintro e w1 ⟨rfl, h1⟩
    go_wp2
    go_ret
    exact ⟨rfl, (keeps3 _ _ _ _).step h1⟩

set_option maxHeartbeats 400000 in
theorem knows1_any (b1 b2 b3 : Nat) (A : Option Addr) (n c W : Nat) (r : Nat → Option Addr × Nat × Nat) (x : Nat → Nat → Int) (a s v : Nat) (w : World) (hW : W ≤ 16) (hr : Rows w A n r x) (ha : a < n) (hrow : (r a).2.1 = W) (hv : v < W) (hs : s < 131072)
   (h0 : w.cell? ⟨b1, 0, none⟩ = some (.int .i64 W)) (h1 : w.cell? ⟨b1, 1, none⟩ = some (.slice A n c)) (h2 : w.cell? ⟨b2, 0, none⟩ = some (.int .i64 a)) (h3 : w.cell? ⟨b3, 0, none⟩ = some (.int .i64 s)) :
    Calls Try.prog 65 #[.int .i64 v, .pointer (some ⟨b1, 0, none⟩), .pointer (some ⟨b2, 0, none⟩), .pointer (some ⟨b3, 0, none⟩)] w fun e w' => e = .returned (.bool (sameB x W a v &&& (18446744073709551615 - s) == 0)) ∧ Keeps w w' := by
  have hl := sameB_lt x W a v hW
  have HB := Lib.hid (bits_andNot (sameB x W a v) s (by omega) (by omega))
  have HR := Lib.hid hrow
  have HRR := Lib.hid hr
  clear hrow hr
  go_enter Try.func65, Try.ntmps65
  go_wp2
  go_region_held3 (fun w' => w'.cell? ⟨b1, 0, none⟩ = some (.int .i64 W) ∧ w'.cell? ⟨b1, 1, none⟩ = some (.slice A n c) ∧ w'.cell? ⟨b2, 0, none⟩ = some (.int .i64 a) ∧ w'.cell? ⟨b3, 0, none⟩ = some (.int .i64 s) ∧ Keeps w w') (first | exact ⟨cell_keeps hk1 g0, cell_keeps hk1 g1, cell_keeps hk1 g2, cell_keeps hk1 g3, gk.step hk1⟩ | exact ⟨h0, h1, h2, h3, Keeps.drew1 _⟩) (first | (go_at_call 66; obtain ⟨g0, g1, g2, g3, gk⟩ : _ ∧ _ ∧ _ ∧ _ ∧ Keeps w _ := (by assumption); refine (lkSame_any A n c W r x a v _ hW (HRR.out.keeps gk) ha HR.out hv).mono ?_; rintro e w1 ⟨rfl, hk1⟩))
  go_wp2
  go_ret
  exact ⟨ret_bool (by rw [HB.out]; exact beq0 _), gk.step hk1⟩

set_option maxHeartbeats 400000 in
theorem knows_any (A : Option Addr) (n c W : Nat) (r : Nat → Option Addr × Nat × Nat) (x : Nat → Nat → Int) (a s : Nat) (w : World) (hW : W ≤ 16) (hr : Rows w A n r x) (ha : a < n) (hrow : (r a).2.1 = W) (hs : s < 131072) :
    Calls Try.prog 39 #[.agg #[.int .i64 W, .slice A n c], .int .i64 a, .int .i64 s] w fun e w' => e = .returned (.int .i64 (knowsB x W a s : Nat)) ∧ Keeps w w' := by
  have hmf : ∀ (fn : Fn) (first cap : Array Value) (w : World), (Instr.makeFunc fn first cap).run Try.prog w = .ok (.func fn first cap) w := fun _ _ _ _ => rfl
  have HR := Lib.hid hrow
  clear hrow
  go_enter Try.func39, Try.ntmps39
  go_wp2_with fail
  refine (filter_any 65 _ W (fun v => sameB x W a v &&& (18446744073709551615 - s) == 0) (fun w' => Keeps (((w.alloc (.cells #[.int .i64 W, .slice A n c] 49)).alloc (.cells #[.int .i64 a] 3)).alloc (.cells #[.int .i64 s] 3)) w') hW (fun _ _ => rfl) ?_ _ (Keeps.refl _)).mono ?_
  · intro k w1 hk hK
    refine (knows1_any w.heap.size (w.heap.size + 1) (w.heap.size + 2) A n c W r x a s k w1 hW ((hr.keeps (keeps3 _ _ _ _)).keeps hK) ha HR.out hk hs (cell_keeps hK (cell_b0 _ _ _ _ _ _ _ rfl)) (cell_keeps hK (cell_b1 _ _ _ _ _ _ _ rfl)) (cell_keeps hK (cell_b2 _ _ _ _ _ _ rfl)) (cell_keeps hK (cell_b3 _ _ _ _ _ _ rfl))).mono ?_
    rintro e w2 ⟨rfl, h2⟩
    exact ⟨rfl, hK.step h2⟩
  · rintro e w1 ⟨rfl, h1⟩
    go_wp2
    go_ret
    exact ⟨rfl, (keeps3 _ _ _ _).step h1⟩

theorem all1_any (v : Value) (w : World) : Calls Try.prog 62 #[v] w fun e w' => e = .returned (.bool true) ∧ w = w' := by
  go_enter Try.func62, Try.ntmps62
  go_wp2
  go_ret
  exact ⟨rfl, rfl⟩

set_option maxHeartbeats 800000 in
theorem all_any (A : Option Addr) (n c W : Nat) (r : Nat → Option Addr × Nat × Nat) (x : Nat → Nat → Int) (s : Nat) (w : World) (hW : W ≤ 16) (hn : n ≤ 4) (hr : Rows w A n r x) (hrow : ∀ a, a < n → (r a).2.1 = W) (hs : s < 131072) :
    Calls Try.prog 35 #[.agg #[.int .i64 W, .slice A n c], .int .i64 s] w fun e w' => e = .returned (.int .i64 (allB x W s n : Nat)) ∧ Keeps w w' := by
  have HR := Lib.hid hrow
  have HRR := Lib.hid hr
  clear hrow hr
  go_enter Try.func35, Try.ntmps35
  go_wp2_with fail
  refine (filter_any 62 #[] W (fun _ => true) (fun w' => Keeps (w.alloc (.cells #[.int .i64 W, .slice A n c] 49)) w') hW (fun _ _ => rfl) ?_ _ (Keeps.refl _)).mono ?_
  · intro k w1 hk hK
    refine (all1_any _ w1).mono ?_
    rintro e w2 ⟨rfl, rfl⟩
    exact ⟨rfl, hK⟩
  · rintro e w1 ⟨rfl, h1⟩
    have hc1 := cell_keeps h1 (show (w.alloc (.cells #[.int .i64 W, .slice A n c] 49)).cell? ⟨w.heap.size, 1, none⟩ = some (.slice A n c) by rw [World.cell?_alloc_at _ _ _ _ rfl]; rfl)
    have hc0 := cell_keeps h1 (show (w.alloc (.cells #[.int .i64 W, .slice A n c] 49)).cell? ⟨w.heap.size, 0, none⟩ = some (.int .i64 W) by rw [World.cell?_alloc_at _ _ _ _ rfl]; rfl)
    go_wp2_with fail
    go_loopw [5, 13] (fun o i wr => ∃ k : Nat, k ≤ n ∧ o = .int .i64 (allB x W s k : Nat) ∧ i = .int .i64 k ∧ Keeps w1 wr) (fun _ i _ => n - (intOf i).toNat)
    case atStart => exact ⟨0, by omega, rfl, rfl, Keeps.refl _⟩
    case round =>
      obtain ⟨k, hk, rfl, rfl, hKr⟩ := hrel
      have hc1r := cell_keeps hKr hc1
      have hc0r := cell_keeps hKr hc0
      by_cases hlt : k < n
      · have ha := allB_lt x W s k hW
        have hkl := knowsB_lt x W k s hW
        have HT : Hid (allB x W s (k + 1) = allB x W s k &&& knowsB x W k s) := Lib.hid rfl
        have HB := Lib.hid (bits_and (allB x W s k) (knowsB x W k s) (by omega) (by omega))
        go_wp2_with fail
        refine (knows_any A n c W r x k s _ hW (((HRR.out.keeps (Keeps.alloc _ _)).keeps h1).keeps hKr) hlt (HR.out k hlt) hs).mono ?_
        rintro e w2 ⟨rfl, h2⟩
        go_wp2
        go_roundw
        case rel => exact ⟨k + 1, by omega, by rw [HT.out, HB.out], by go_num, hKr.step h2⟩
        case measure => simp [intOf]; omega
      · have : k = n := by omega
        subst this
        go_wp2
        go_ret
        exact ⟨rfl, ((Keeps.alloc _ _).step h1).step hKr⟩

theorem lookOf_any (A : Option Addr) (n c : Nat) (W : Int) (w : World) :
    Calls Try.prog 34 #[.agg #[.int .i64 W, .slice A n c]] w fun e w' => e = .returned (.agg #[.int .i64 W, .slice A n c]) ∧ Keeps w w' := by
  go_enter Try.func34, Try.ntmps34
  go_wp2
  refine bodyPost_ret (v := .agg #[.int .i64 W, .slice A n c]) (by simp [results, Try.results34, go_sem]) rfl ⟨rfl, ?_⟩
  go_grown
end Go.Proofs.Ytalafojkmomolaa
