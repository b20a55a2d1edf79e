/-
  slices.Min at []int, valid rules in memory, and impl.nextOf. Conditions: valid rules and a crowd.
-/
import Derived.Test.YtaejakejnllimaaSorted
import Derived.Test.YtaejakejnllimaaCrwOk
import Derived.Test.YtaejakejnllimaaClone
namespace Go.Proofs.Ytaejakejnllimaa
set_option maxRecDepth 100000
set_option linter.unusedVariables false
open Go.RowKit

/-- The least of the first k + 1 numbers. -/
def lowF (x : Nat → Int) : Nat → Int
  | 0 => x 0
  | k + 1 => min (lowF x k) (x (k + 1))
theorem lowF_le (x : Nat → Int) : ∀ k i, i ≤ k → lowF x k ≤ x i
  | 0, i, h => by rw [show i = 0 by omega]; exact Int.le_refl _
  | k + 1, i, h => by
    unfold lowF
    by_cases e : i = k + 1
    · rw [e]; omega
    · have := lowF_le x k i (by omega); omega
theorem lowF_at (x : Nat → Int) : ∀ k, ∃ i, i ≤ k ∧ lowF x k = x i
  | 0 => ⟨0, by omega, rfl⟩
  | k + 1 => by
    obtain ⟨i, hi, e⟩ := lowF_at x k
    by_cases h : x (k + 1) ≤ lowF x k
    · exact ⟨k + 1, by omega, by unfold lowF; omega⟩
    · exact ⟨i, by omega, by unfold lowF; omega⟩
theorem lowF_pos (x : Nat → Int) (k : Nat) : 0 ≤ lowF x k ↔ ∀ i, i ≤ k → 0 ≤ x i := by
  constructor
  · intro h i hi
    exact Int.le_trans h (lowF_le x k i hi)
  · intro h
    obtain ⟨i, hi, e⟩ := lowF_at x k
    rw [e]; exact h i hi
set_option maxHeartbeats 1000000 in
theorem slMin_any (A : Option Addr) (m c : Nat) (x : Nat → Int) (w : World) (hm : m + 1 ≤ 1099511627776) (hI : Ints w A (m + 1) x) :
    Calls Try.prog 63 #[.slice A (m + 1) c] w fun e w' => e = .returned (.int .i64 (lowF x m)) ∧ w = w' := by
  have HI := Lib.hid hI
  obtain ⟨d, off, rfl, hc0⟩ := hI 0 (by omega)
  clear hI
  obtain ⟨n, hn⟩ : ∃ n, n = m + 1 := ⟨_, rfl⟩
  rw [← hn] at hm HI ⊢
  have HN := Lib.hid hn
  have hn1 : (1 : Int) ≤ n := by omega
  have hn2 : (0 : Int) < n := by omega
  have hn3 : 0 < n := by omega
  have hn4 : ¬ ((n : Int) < 1) := by omega
  rw [Nat.add_zero] at hc0
  clear hn
  go_enter Try.func63, Try.ntmps63
  go_wp2_with fail
  go_loopw [4, 3] (fun i v wr => ∃ k : Nat, k < n ∧ i = .int .i64 ((k : Int) + 1) ∧ v = .int .i64 (lowF x k) ∧ w = wr) (fun i _ _ => n + 1 - (intOf i).toNat)
  case atStart => exact ⟨0, by omega, by simp, rfl, rfl⟩
  case round =>
    obtain ⟨k, hk, rfl, rfl, rfl⟩ := hrel
    by_cases hlt : k + 1 < n
    · have hki : (k : Int) + 1 < n := by omega
      obtain ⟨_, _, e, hc⟩ := HI.out (k + 1) hlt
      cases e
      have HS := Lib.hid (show lowF x (k + 1) = min (lowF x k) (x (k + 1)) from rfl)
      generalize lowF x k = v at *
      generalize x (k + 1) = z at *
      by_cases h : z < v
      · have HV := Lib.hid (show lowF x (k + 1) = z by rw [HS.out]; omega)
        go_wp2
        go_roundw
        case rel => exact ⟨k + 1, by omega, by go_num, by rw [HV.out]; congr 1; omega, trivial⟩
        case measure => simp [intOf]; omega
      · have HV := Lib.hid (show lowF x (k + 1) = v by rw [HS.out]; omega)
        go_wp2
        go_roundw
        case rel => exact ⟨k + 1, by omega, by go_num, by rw [HV.out]; congr 1; omega, trivial⟩
        case measure => simp [intOf]; omega
    · have hki : ¬ ((k : Int) + 1 < n) := by omega
      have HV : Hid (lowF x k = lowF x m) := Lib.hid (by rw [show k = m by have := HN.out; omega])
      go_wp2
      go_ret
      exact ⟨ret_int HV.out, rfl⟩
theorem Ints.congr {w : World} {a : Option Addr} {n : Nat} {x y : Nat → Int} (h : Ints w a n x) (e : ∀ i, i < n → x i = y i) : Ints w a n y := fun i hi => by
  rw [← e i hi]; exact h i hi
/-- Valid rules of n kinds in memory. -/
structure RulN (w : World) (S : Option Addr) (n : Nat) (s : Nat → Int) (A : Option Addr) (rA : Nat → Option Addr × Nat × Nat) (F : Nat → Nat → Nat) (B : Option Addr) (rB : Nat → Option Addr × Nat × Nat) (G : Nat → Nat → Nat) : Prop where
  n1 : 1 ≤ n
  n4 : n ≤ 4
  says : Ints w S n s
  bits : ∀ a, a < n → s a = 0 ∨ s a = 1
  first : Rows w A n rA (fun i j => ((F i j : Nat) : Int))
  second : Rows w B n rB (fun i j => ((G i j : Nat) : Int))
  lA : ∀ i, i < n → (rA i).2.1 = n
  lB : ∀ i, i < n → (rB i).2.1 = n
  rul : Rul n F G
section
variable {w w' : World} {S A B : Option Addr} {n : Nat} {s : Nat → Int} {rA rB : Nat → Option Addr × Nat × Nat} {F G : Nat → Nat → Nat}
theorem RulN.keeps (h : RulN w S n s A rA F B rB G) (k : Keeps w w') : RulN w' S n s A rA F B rB G :=
  ⟨h.n1, h.n4, h.says.keeps k, h.bits, h.first.keeps k, h.second.keeps k, h.lA, h.lB, h.rul⟩
theorem RulAt.valid {nA nB : Nat} {f g : Nat → Nat → Int} (h : RulAt w S n s A nA rA f B nB rB g) (hv : rulB n s nA rA f nB rB g = true) : nA = n ∧ nB = n ∧ RulN w S n s A rA (fun i j => (f i j).toNat) B rB (fun i j => (g i j).toNat) := by
  obtain ⟨h1, h2, h3, h4⟩ := rulB_iff.1 hv
  subst h2
  subst h3
  refine ⟨rfl, rfl, h1.1, h1.2, h.says, fun a ha => (h4 a ha).1, fun i hi => ⟨(h.first i hi).1, ((h.first i hi).2).congr (fun j hj => ?_)⟩, fun i hi => ⟨(h.second i hi).1, ((h.second i hi).2).congr (fun j hj => ?_)⟩, fun i hi => (h4 i hi).2.1, fun i hi => (h4 i hi).2.2.1, fun a b ha hb => ?_⟩
  · have := ((h4 i hi).2.2.2 j (by rw [(h4 i hi).2.1] at hj; exact hj)).1
    dsimp only
    omega
  · have := ((h4 i hi).2.2.2 j (by rw [(h4 i hi).2.2.1] at hj; exact hj)).2
    dsimp only
    omega
  · have h5 := (h4 a ha).2.2.2 b hb
    omega
end
theorem wp_app_crd {ops : Array Oper} {rest : List Oper} {o : Oper} {a : Act} {Q : Exit → Act → World → Prop}
    (hgd : o.guard = none) (s y : Operand) (ho : o.op = .call { callee := .builtin .append, args := #[s, y], argTypes := #[24, 24] })
    (lo : Nat) (A : Option Addr) (n c : Nat) (R : List Hdr) (w : World) (hs : a.eval s = .slice A n c) (hown : Crd w lo A n c R)
    (x : Hdr) (hrow : OwnInts w lo (some ⟨x.g, 0, none⟩) x.l.length x.d x.l) (v : Value) (hv : v = x.v) (hx : a.eval y = .slice (some ⟨w.heap.size, 0, none⟩) 1 1) (hn : n + 1 ≤ 1099511627776) (hbase : lo ≤ w.heap.size)
    (h : ∀ (g c' : Nat) (w' : World), Crd w' lo (some ⟨g, 0, none⟩) (n + 1) c' (R ++ [x]) → w.grownBy w' (A.map (·.block)) → wpList Try.prog ops Q rest (a.put o.dst (.slice (some ⟨g, 0, none⟩) (n + 1) c')) w') :
    wpList Try.prog ops Q (o :: rest) a (w.alloc (.cells #[v] 23)) := by
  subst hv
  refine wp_app Try.underlying24 info_ints rfl (by omega) hgd s y ho lo A n c _ w hs hown.top _ rfl hx hn hbase (fun g c' w' g1 g2 => h g c' w' ⟨by rw [List.map_append]; exact g1, fun z hz => ?_⟩ g2)
  have keep : ∀ z : Hdr, OwnInts w lo (some ⟨z.g, 0, none⟩) z.l.length z.d z.l → OwnInts w' lo (some ⟨z.g, 0, none⟩) z.l.length z.d z.l := fun z hz => own_kept hz g2 (fun b hb e => own_type hz hown.top (by decide) b hb e)
  rcases List.mem_append.1 hz with e | e
  · exact keep z (hown.row z e)
  · rw [List.mem_singleton] at e
    subst e
    exact keep z hrow
theorem Crd.made (w : World) (lo : Nat) (h : lo ≤ w.heap.size) : Crd (w.alloc (.cells #[] 23)) lo (some ⟨w.heap.size, 0, none⟩) 0 0 [] :=
  ⟨World.ownsRow_made w #[] 0 h (by unfold maxLen; omega) rfl, fun h hh => by simp at hh⟩
end Go.Proofs.Ytaejakejnllimaa
