/-
  impl.sorted: lists in order, each once. Condition: lengths at most 100000.
-/
import Derived.Test.YtlniogfinofakaaGreatDoorRuBg
import Derived.Shelf.SlSortCmp.NoneTotal
import Derived.Test.YtlniogfinofakaaGreatDoorRuAv
import Derived.Test.YtlniogfinofakaaGreatDoorRuAe
import Derived.Deep.RegionLaw
import Derived.Test.YtlniogfinofakaaGreatDoorRuAu
import Derived.Test.YtlniogfinofakaaGreatDoorRuAd
namespace Go.Proofs.YtlniogfinofakaaGreatDoor
set_option maxRecDepth 100000
set_option maxRecDepth 100000
set_option linter.unusedVariables false
open Go.RowKit

theorem slClipL_any (g n c : Nat) (w : World) (hn : n ≤ c) (hc : c ≤ 9223372036854775807) :
    Calls Tryz.prog 127 #[.slice (some ⟨g, 0, none⟩) n c] w fun e w' => e = .returned (.slice (some ⟨g, 0, none⟩) n n) ∧ w = w' := by
  go_enter Tryz.func127, Tryz.ntmps127
  go_wp2
  go_ret
  exact ⟨rfl, rfl⟩
theorem sort_none (p : Option Addr) (c : Nat) (w : World) : Calls Tryz.prog 157 #[.slice p 0 c, .func (.func 158) #[] #[]] w fun e w' => e = .returned (.tuple #[]) ∧ w' = w :=
  AnyF.slices_SortFunc_none { sortL with } p c _ w
/-- What sorted returns: own lists in order, each once, out of those that were there. -/
theorem sorted_any (g m c lo : Nat) (R : List Hdr) (w w0 : World) (hR : Crd w lo (some ⟨g, 0, none⟩) m c R) (hm2 : m ≤ 100000) (hl : ∀ h ∈ R, h.l.length ≤ 1000) (hw0 : Keeps w0 w) (hlo : w0.heap.size ≤ lo) (hap : (R.map (·.g)).Nodup) :
    Calls Tryz.prog 136 #[.slice (some ⟨g, 0, none⟩) m c] w fun e w' => ∃ R' k, e = .returned (.slice (some ⟨g, 0, none⟩) k k) ∧ R'.map (·.l) = canL (R.map (·.l)) ∧ (R'.map (·.g)).Nodup ∧ (∀ h ∈ R', h ∈ R) ∧ Crn w' lo (some ⟨g, 0, none⟩) k R' ∧ Keeps w0 w' := by
  have CS : Hid (Calls Tryz.prog 157 #[.slice (some ⟨g, 0, none⟩) m c, .func (.func 158) #[] #[]] w fun e w' => e = .returned (.tuple #[]) ∧ ∃ R', R'.Perm R ∧ Crd w' lo (some ⟨g, 0, none⟩) m c R' ∧ R'.Pairwise (fun x y => ltL y.l x.l = false) ∧ Keeps w0 w') := Lib.hid (by
    by_cases hm : 1 ≤ m
    · refine (sort_any g m c lo R w hR hm hm2 hl).mono ?_
      rintro e w' ⟨h1, R', h2, h3, h4, h5⟩
      exact ⟨h1, R', h2, h3, h4, hw0.grown hR.top hlo h5⟩
    · obtain rfl : m = 0 := by omega
      refine (sort_none _ c w).mono ?_
      rintro e w' ⟨h1, rfl⟩
      have h0 : R = [] := List.eq_nil_of_length_eq_zero hR.len
      exact ⟨h1, R, List.Perm.refl _, hR, by rw [h0]; exact List.Pairwise.nil, hw0⟩)
  have HL := Lib.hid hl
  have HAP := Lib.hid hap
  obtain ⟨_, _, _, hmc, hcm, _, _⟩ := hR.top_blk
  have hcx : c ≤ 9223372036854775807 := by unfold maxLen at hcm; omega
  clear hR hl hw0 hap hmc hcm
  go_enter Tryz.func136, Tryz.ntmps136
  go_wp2_with fail
  refine CS.out.mono ?_
  rintro e w1 ⟨rfl, R1, hp, hR1, hw1, hk1⟩
  have HP := Lib.hid hp
  have HR1 := Lib.hid hR1
  have HW1 := Lib.hid hw1
  have HK1 := Lib.hid hk1
  clear hp hR1 hw1 hk1 CS
  go_wp2_with fail
  refine (compactF_any g m c lo R1 w1 w0 HR1.out hm2 (fun h hh => HL.out h (HP.out.mem_iff.1 hh)) HK1.out hlo).mono ?_
  rintro e w2 ⟨R2, k, rfl, hs2, hc2, hR2, hkc, hk2⟩
  have HS2 := Lib.hid hs2
  have HC2 := Lib.hid hc2
  have HR2 := Lib.hid hR2
  have HK2 := Lib.hid hk2
  clear hs2 hc2 hR2 hk2
  go_wp2_with fail
  refine (slClipL_any g k c w2 hkc hcx).mono ?_
  rintro e w3 ⟨rfl, rfl⟩
  go_wp2_with fail
  go_ret
  refine ⟨R2, k, rfl, ?_, ?_, fun h hh => HP.out.mem_iff.1 (HS2.out.subset hh), HR2.out, HK2.out⟩
  · rw [HC2.out]
    refine compL_can ?_ (HP.out.map _)
    exact List.pairwise_map.2 HW1.out
  · exact (HS2.out.map _).nodup ((HP.out.map _).nodup_iff.2 HAP.out)
end Go.Proofs.YtlniogfinofakaaGreatDoor
/-
  slices.Min at []int, valid rules in memory, and impl.nextOf. Conditions: valid rules and a crowd.
-/
namespace Go.Proofs.YtlniogfinofakaaGreatDoor
set_option maxRecDepth 100000
set_option maxRecDepth 100000
set_option linter.unusedVariables false
open Go.RowKit

/-- The least of the first k + 1 numbers. -/
def lowF (x : Nat → Int) : Nat → Int
  | 0 => x 0
  | k + 1 => min (lowF x k) (x (k + 1))
theorem lowF_le (x : Nat → Int) : ∀ k i, i ≤ k → lowF x k ≤ x i
  | 0, i, h => by rw [show i = 0 by omega]; exact Int.le_refl _
  | k + 1, i, h => by
    unfold lowF
    by_cases e : i = k + 1
    · rw [e]; omega
    · have := lowF_le x k i (by omega); omega
theorem lowF_at (x : Nat → Int) : ∀ k, ∃ i, i ≤ k ∧ lowF x k = x i
  | 0 => ⟨0, by omega, rfl⟩
  | k + 1 => by
    obtain ⟨i, hi, e⟩ := lowF_at x k
    by_cases h : x (k + 1) ≤ lowF x k
    · exact ⟨k + 1, by omega, by unfold lowF; omega⟩
    · exact ⟨i, by omega, by unfold lowF; omega⟩
theorem lowF_pos (x : Nat → Int) (k : Nat) : 0 ≤ lowF x k ↔ ∀ i, i ≤ k → 0 ≤ x i := by
  constructor
  · intro h i hi
    exact Int.le_trans h (lowF_le x k i hi)
  · intro h
    obtain ⟨i, hi, e⟩ := lowF_at x k
    rw [e]; exact h i hi
set_option maxHeartbeats 1000000 in
theorem slMin_any (A : Option Addr) (m c : Nat) (x : Nat → Int) (w : World) (hm : m + 1 ≤ 1099511627776) (hI : Ints w A (m + 1) x) :
    Calls Tryz.prog 156 #[.slice A (m + 1) c] w fun e w' => e = .returned (.int .i64 (lowF x m)) ∧ w = w' := by
  have HI := Lib.hid hI
  obtain ⟨d, off, rfl, hc0⟩ := hI 0 (by omega)
  clear hI
  obtain ⟨n, hn⟩ : ∃ n, n = m + 1 := ⟨_, rfl⟩
  rw [← hn] at hm HI ⊢
  have HN := Lib.hid hn
  have hn1 : (1 : Int) ≤ n := by omega
  have hn2 : (0 : Int) < n := by omega
  have hn3 : 0 < n := by omega
  have hn4 : ¬ ((n : Int) < 1) := by omega
  rw [Nat.add_zero] at hc0
  clear hn
  go_enter Tryz.func156, Tryz.ntmps156
  go_wp2_with fail
  go_loopw [4, 3] (fun i v wr => ∃ k : Nat, k < n ∧ i = .int .i64 ((k : Int) + 1) ∧ v = .int .i64 (lowF x k) ∧ w = wr) (fun i _ _ => n + 1 - (intOf i).toNat)
  case atStart => exact ⟨0, by omega, by simp, rfl, rfl⟩
  case round =>
    obtain ⟨k, hk, rfl, rfl, rfl⟩ := hrel
    by_cases hlt : k + 1 < n
    · have hki : (k : Int) + 1 < n := by omega
      obtain ⟨_, _, e, hc⟩ := HI.out (k + 1) hlt
      cases e
      have HS := Lib.hid (show lowF x (k + 1) = min (lowF x k) (x (k + 1)) from rfl)
      generalize lowF x k = v at *
      generalize x (k + 1) = z at *
      by_cases h : z < v
      · have HV := Lib.hid (show lowF x (k + 1) = z by rw [HS.out]; omega)
        go_wp2
        go_roundw
        case rel => exact ⟨k + 1, by omega, by go_num, by rw [HV.out]; congr 1; omega, trivial⟩
        case measure => simp [intOf]; omega
      · have HV := Lib.hid (show lowF x (k + 1) = v by rw [HS.out]; omega)
        go_wp2
        go_roundw
        case rel => exact ⟨k + 1, by omega, by go_num, by rw [HV.out]; congr 1; omega, trivial⟩
        case measure => simp [intOf]; omega
    · have hki : ¬ ((k : Int) + 1 < n) := by omega
      have HV : Hid (lowF x k = lowF x m) := Lib.hid (by rw [show k = m by have := HN.out; omega])
      go_wp2
      go_ret
      exact ⟨ret_int HV.out, rfl⟩
theorem Ints.congr {w : World} {a : Option Addr} {n : Nat} {x y : Nat → Int} (h : Ints w a n x) (e : ∀ i, i < n → x i = y i) : Ints w a n y := fun i hi => by
  rw [← e i hi]; exact h i hi
/-- Valid rules of n kinds in memory. -/
structure RulN (w : World) (S : Option Addr) (n : Nat) (s : Nat → Int) (A : Option Addr) (rA : Nat → Option Addr × Nat × Nat) (F : Nat → Nat → Nat) (B : Option Addr) (rB : Nat → Option Addr × Nat × Nat) (G : Nat → Nat → Nat) : Prop where
  n1 : 1 ≤ n
  n4 : n ≤ 4
  says : Ints w S n s
  bits : ∀ a, a < n → s a = 0 ∨ s a = 1
  first : Rows w A n rA (fun i j => ((F i j : Nat) : Int))
  second : Rows w B n rB (fun i j => ((G i j : Nat) : Int))
  lA : ∀ i, i < n → (rA i).2.1 = n
  lB : ∀ i, i < n → (rB i).2.1 = n
  rul : Rul n F G
section
variable {w w' : World} {S A B : Option Addr} {n : Nat} {s : Nat → Int} {rA rB : Nat → Option Addr × Nat × Nat} {F G : Nat → Nat → Nat}
theorem RulN.keeps (h : RulN w S n s A rA F B rB G) (k : Keeps w w') : RulN w' S n s A rA F B rB G :=
  ⟨h.n1, h.n4, h.says.keeps k, h.bits, h.first.keeps k, h.second.keeps k, h.lA, h.lB, h.rul⟩
theorem RulAt.valid {nA nB : Nat} {f g : Nat → Nat → Int} (h : RulAt w S n s A nA rA f B nB rB g) (hv : rulB n s nA rA f nB rB g = true) : nA = n ∧ nB = n ∧ RulN w S n s A rA (fun i j => (f i j).toNat) B rB (fun i j => (g i j).toNat) := by
  obtain ⟨h1, h2, h3, h4⟩ := rulB_iff.1 hv
  subst h2
  subst h3
  refine ⟨rfl, rfl, h1.1, h1.2, h.says, fun a ha => (h4 a ha).1, fun i hi => ⟨(h.first i hi).1, ((h.first i hi).2).congr (fun j hj => ?_)⟩, fun i hi => ⟨(h.second i hi).1, ((h.second i hi).2).congr (fun j hj => ?_)⟩, fun i hi => (h4 i hi).2.1, fun i hi => (h4 i hi).2.2.1, fun a b ha hb => ?_⟩
  · have := ((h4 i hi).2.2.2 j (by rw [(h4 i hi).2.1] at hj; exact hj)).1
    dsimp only
    omega
  · have := ((h4 i hi).2.2.2 j (by rw [(h4 i hi).2.2.1] at hj; exact hj)).2
    dsimp only
    omega
  · have h5 := (h4 a ha).2.2.2 b hb
    omega
end
theorem wp_app_crd {ops : Array Oper} {rest : List Oper} {o : Oper} {a : Act} {Q : Exit → Act → World → Prop}
    (hgd : o.guard = none) (s y : Operand) (ho : o.op = .call { callee := .builtin .append, args := #[s, y], argTypes := #[52, 52] })
    (lo : Nat) (A : Option Addr) (n c : Nat) (R : List Hdr) (w : World) (hs : a.eval s = .slice A n c) (hown : Crd w lo A n c R)
    (x : Hdr) (hrow : OwnInts w lo (some ⟨x.g, 0, none⟩) x.l.length x.d x.l) (v : Value) (hv : v = x.v) (hx : a.eval y = .slice (some ⟨w.heap.size, 0, none⟩) 1 1) (hn : n + 1 ≤ 1099511627776) (hbase : lo ≤ w.heap.size)
    (h : ∀ (g c' : Nat) (w' : World), Crd w' lo (some ⟨g, 0, none⟩) (n + 1) c' (R ++ [x]) → w.grownBy w' (A.map (·.block)) → wpList Tryz.prog ops Q rest (a.put o.dst (.slice (some ⟨g, 0, none⟩) (n + 1) c')) w') :
    wpList Tryz.prog ops Q (o :: rest) a (w.alloc (.cells #[v] 45)) := by
  subst hv
  refine wp_app Tryz.underlying52 info_ints rfl (by omega) hgd s y ho lo A n c _ w hs hown.top _ rfl hx hn hbase (fun g c' w' g1 g2 => h g c' w' ⟨by rw [List.map_append]; exact g1, fun z hz => ?_⟩ g2)
  have keep : ∀ z : Hdr, OwnInts w lo (some ⟨z.g, 0, none⟩) z.l.length z.d z.l → OwnInts w' lo (some ⟨z.g, 0, none⟩) z.l.length z.d z.l := fun z hz => own_kept hz g2 (fun b hb e => own_type hz hown.top (by decide) b hb e)
  rcases List.mem_append.1 hz with e | e
  · exact keep z (hown.row z e)
  · rw [List.mem_singleton] at e
    subst e
    exact keep z hrow
theorem Crd.made (w : World) (lo : Nat) (h : lo ≤ w.heap.size) : Crd (w.alloc (.cells #[] 45)) lo (some ⟨w.heap.size, 0, none⟩) 0 0 [] :=
  ⟨World.ownsRow_made w #[] 0 h (by unfold maxLen; omega) rfl, fun h hh => by simp at hh⟩
end Go.Proofs.YtlniogfinofakaaGreatDoor
/-
  The reference's less, same and insert. Conditions: bounds on lengths.
-/
namespace Go.Proofs.YtlniogfinofakaaGreatDoor
set_option maxRecDepth 100000
set_option maxRecDepth 100000
set_option linter.unusedVariables false
open Go.RowKit

theorem icmp_lt (x y : Int) : icmp x y < 0 ↔ x < y := by unfold icmp; split <;> (try split) <;> omega
theorem icmp_eq (x y : Int) : icmp x y = 0 ↔ x = y := by unfold icmp; split <;> (try split) <;> omega
set_option maxHeartbeats 1000000 in
theorem less_any (a b : Option Addr) (n c d : Nat) (l m : List Int) (w : World) (hl : l.length = n) (hm : m.length = n) (hn : n ≤ 1099511627776) (hx : Ints w a n (fun i => l.getD i 0)) (hy : Ints w b n (fun i => m.getD i 0)) :
    Calls Tryz.prog 113 #[.slice a n c, .slice b n d] w fun e w' => e = .returned (.bool (ltL l m)) ∧ Keeps w w' := by
  have HX := Lib.hid hx
  have HY := Lib.hid hy
  obtain ⟨C, hC⟩ : ∃ C : Nat → Int, C = fun i => cmpL (l.drop i) (m.drop i) := ⟨_, rfl⟩
  obtain ⟨x, hx0⟩ : ∃ x : Nat → Int, x = fun i => l.getD i 0 := ⟨_, rfl⟩
  obtain ⟨y, hy0⟩ : ∃ y : Nat → Int, y = fun i => m.getD i 0 := ⟨_, rfl⟩
  have HC1 : Hid (∀ i, i < n → C i = if icmp (x i) (y i) = 0 then C (i + 1) else icmp (x i) (y i)) := Lib.hid (by rw [hC, hx0, hy0]; exact fun i hi => cmp_drop l m i (by omega) (by omega))
  have HC2 : Hid (C n = 0) := Lib.hid (by rw [hC]; dsimp only; rw [List.drop_eq_nil_of_le (by omega), List.drop_eq_nil_of_le (by omega)]; rfl)
  have HC0 : Hid (ltL l m = decide (C 0 < 0)) := Lib.hid (by rw [hC]; simp [ltL])
  rw [← hx0] at HX
  rw [← hy0] at HY
  clear hx hy hC hx0 hy0 hl hm
  go_enter Tryz.func113, Tryz.ntmps113
  go_wp2_with fail
  go_loopw [5] (fun i wr => ∃ j : Nat, j ≤ n ∧ i = .int .i64 j ∧ Hid (C 0 = C j) ∧ Hid (Keeps w wr)) (fun i _ => n - (intOf i).toNat)
  case atStart => exact ⟨0, by omega, rfl, Lib.hid rfl, Lib.hid (Keeps.refl _)⟩
  case round =>
    obtain ⟨j, hj, rfl, HCJ, HK⟩ := hrel
    by_cases hlt : j < n
    · have hji : (j : Int) < n := by omega
      obtain ⟨d1, o1, rfl, hc1⟩ := HX.out.keeps HK.out j hlt
      obtain ⟨d2, o2, rfl, hc2⟩ := HY.out.keeps HK.out j hlt
      have HV := Lib.hid (HC1.out j hlt)
      have HI := Lib.hid (icmp_eq (x j) (y j))
      have HI2 := Lib.hid (icmp_lt (x j) (y j))
      generalize x j = xj at *
      generalize y j = yj at *
      cases he : (xj != yj)
      · have HE : Hid (C j = C (j + 1)) := Lib.hid (by rw [HV.out, if_pos (HI.out.2 (by simpa using he))])
        go_wp2_with fail
        go_quiet (fail)
        go_wp2
        go_roundw
        case rel => exact ⟨j + 1, by omega, by go_num, Lib.hid (HCJ.out.trans HE.out), Lib.hid (HK.out.step (Keeps.drewN _ _))⟩
        case measure => simp [intOf]; omega
      · have HE : Hid (C j = icmp xj yj) := Lib.hid (by rw [HV.out, if_neg (fun h => by have := HI.out.1 h; simp [this] at he)])
        have HLT : Hid (ltL l m = decide (xj < yj)) := Lib.hid (by
          rw [HC0.out, HCJ.out, HE.out]
          exact decide_eq_decide.2 HI2.out)
        go_wp2_with fail
        go_quiet (fail)
        go_wp2_with fail
        go_quiet (fail)
        go_wp2
        go_ret
        exact ⟨ret_bool HLT.out.symm, HK.out.step ((Keeps.drewN _ _).step (Keeps.drewN _ _))⟩
    · obtain rfl : j = n := by omega
      have HF : Hid (false = ltL l m) := Lib.hid (by rw [HC0.out, HCJ.out, HC2.out]; rfl)
      go_wp2
      go_ret
      exact ⟨ret_bool HF.out, HK.out⟩
set_option maxHeartbeats 1000000 in
theorem same_any (a b : Option Addr) (n c d : Nat) (l m : List Int) (w : World) (hl : l.length = n) (hm : m.length = n) (hn : n ≤ 1099511627776) (hx : Ints w a n (fun i => l.getD i 0)) (hy : Ints w b n (fun i => m.getD i 0)) :
    Calls Tryz.prog 55 #[.slice a n c, .slice b n d] w fun e w' => e = .returned (.bool (decide (l = m))) ∧ Keeps w w' := by
  have HX := Lib.hid hx
  have HY := Lib.hid hy
  have HE := Lib.hid (lists_ne l m (by omega))
  rw [hl] at HE
  obtain ⟨x, hx0⟩ : ∃ x : Nat → Int, x = fun i => l.getD i 0 := ⟨_, rfl⟩
  obtain ⟨y, hy0⟩ : ∃ y : Nat → Int, y = fun i => m.getD i 0 := ⟨_, rfl⟩
  have hxy : (fun i => l.getD i 0 != m.getD i 0) = fun i => x i != y i := by rw [hx0, hy0]
  rw [hxy] at HE
  rw [← hx0] at HX
  rw [← hy0] at HY
  clear hx hy hx0 hy0 hl hm hxy
  go_enter Tryz.func55, Tryz.ntmps55
  go_wp2_with fail
  go_loopw [5] (fun i wr => ∃ j : Nat, j ≤ n ∧ i = .int .i64 j ∧ Hid (anyB (fun i => x i != y i) j = false) ∧ Hid (Keeps w wr)) (fun i _ => n - (intOf i).toNat)
  case atStart => exact ⟨0, by omega, rfl, Lib.hid rfl, Lib.hid (Keeps.refl _)⟩
  case round =>
    obtain ⟨j, hj, rfl, HA, HK⟩ := hrel
    by_cases hlt : j < n
    · have hji : (j : Int) < n := by omega
      obtain ⟨d1, o1, rfl, hc1⟩ := HX.out.keeps HK.out j hlt
      obtain ⟨d2, o2, rfl, hc2⟩ := HY.out.keeps HK.out j hlt
      have HS := Lib.hid (show anyB (fun i => x i != y i) (j + 1) = (anyB (fun i => x i != y i) j || (x j != y j)) from rfl)
      have HT : Hid ((x j != y j) = true → false = decide (l = m)) := Lib.hid (fun h => by rw [← HE.out, (anyB_iff _ _).2 ⟨j, hlt, h⟩]; rfl)
      generalize x j = xj at *
      generalize y j = yj at *
      cases he : (xj != yj)
      · have HP := Lib.hid he
        go_wp2_with fail
        go_quiet (fail)
        go_wp2
        go_roundw
        case rel => exact ⟨j + 1, by omega, by go_num, Lib.hid (by rw [HS.out, HA.out, HP.out]; rfl), Lib.hid (HK.out.step (Keeps.drewN _ _))⟩
        case measure => simp [intOf]; omega
      · have HF := Lib.hid (HT.out he)
        go_wp2_with fail
        go_quiet (fail)
        go_wp2
        go_ret
        exact ⟨ret_bool HF.out, HK.out.step (Keeps.drewN _ _)⟩
    · obtain rfl : j = n := by omega
      have HF : Hid (true = decide (l = m)) := Lib.hid (by rw [← HE.out, HA.out]; rfl)
      go_wp2
      go_ret
      exact ⟨ret_bool HF.out, HK.out⟩
theorem Crn.cell {w : World} {lo g m : Nat} {R : List Hdr} (h : Crn w lo (some ⟨g, 0, none⟩) m R) (i : Nat) (hi : i < m) : w.cell? ⟨g, i, none⟩ = some (R.getD i default).v := by
  rcases h.top with h0 | ⟨g', cur, e, _, hb, ht⟩
  · omega
  · cases e
    have hl := h.len
    rw [hb.cell i, ← Array.getElem?_toList, ← List.getElem?_take_of_lt hi, ht, List.getElem?_map, List.getElem?_eq_getElem (by omega), List.getD_eq_getElem?_getD, List.getElem?_eq_getElem (by omega)]
    rfl
theorem Crn.rowD {w : World} {lo m : Nat} {A : Option Addr} {R : List Hdr} (h : Crn w lo A m R) (i : Nat) (hi : i < m) : OwnInts w lo (some ⟨(R.getD i default).g, 0, none⟩) (R.getD i default).l.length (R.getD i default).d (R.getD i default).l := by
  have := h.len
  refine h.row _ ?_
  rw [List.getD_eq_getElem?_getD, List.getElem?_eq_getElem (by omega)]
  exact List.getElem_mem _
theorem Crn.keeps {w w' : World} {lo m : Nat} {A : Option Addr} {R : List Hdr} (h : Crn w lo A m R) (k : Keeps w w') : Crn w' lo A m R := by
  refine ⟨h.len, ?_, fun x hx => (h.row x hx).keeps k⟩
  rcases h.top with h0 | ⟨g', cur, e, hl, hb, ht⟩
  · exact .inl h0
  · exact .inr ⟨g', cur, e, hl, hb.keeps k, ht⟩
theorem step_spread_crd {ops : Array Oper} {o : Oper} {a : Act} {K : Act → World → Prop} {Q : Exit → Act → World → Prop} {D : Prop}
    (hgd : o.guard = none) (s y : Operand) (ho : o.op = .call { callee := .builtin .append, args := #[s, y], argTypes := #[52, 52] })
    (lo g n c : Nat) (R : List Hdr) (W : World) (hs : a.eval s = .slice (some ⟨g, 0, none⟩) n c) (hC : Crd W lo (some ⟨g, 0, none⟩) n c R)
    (b off m k : Nat) (hx : a.eval y = .slice (some ⟨b, off, none⟩) m k) (R2 : List Hdr) (hl2 : R2.length = m) (hz : ∀ j, j < m → W.cell? ⟨b, off + j, none⟩ = some (R2.getD j default).v)
    (hrow : ∀ h ∈ R2, OwnInts W lo (some ⟨h.g, 0, none⟩) h.l.length h.d h.l) (hn : n + m ≤ 1099511627776) (hbase : lo ≤ W.heap.size)
    (h : ∀ (g' c' : Nat) (w' : World), Crd w' lo (some ⟨g', 0, none⟩) (n + m) c' (R ++ R2) → W.grownBy w' (some g) → (g' = g ∨ g' = W.heap.size) → K (a.put o.dst (.slice (some ⟨g', 0, none⟩) (n + m) c')) w') :
    if Region.wanted o (yielded ops a.tmps) = true then Oper.wp Tryz.prog o a W K Q else D := by
  have hw : Region.wanted o (yielded ops a.tmps) = true := by simp [Region.wanted, hgd]
  rw [if_pos hw]
  obtain ⟨i0, hi, hz0, hz1, hz2⟩ := info_parts info_ints
  obtain ⟨v', w', hr, h2, h3, h4, h5⟩ := run_append_own_at (P := Tryz.prog) W lo 52 o.type 45 i0 _ 1 24 Tryz.underlying52 hi hz0 hz1 hz2 rfl (by decide) _ n _ hC.top ⟨b, off, none⟩ m k (R2.map Hdr.v) (by simp [hl2]) (fun j u hj => by
    have hjm : j < m := by
      have := (List.getElem?_eq_some_iff.1 hj).1
      simpa [hl2] using this
    rw [show (⟨b, off, none⟩ : Addr).add j = ⟨b, off + j, none⟩ from Addr.add_lit _ _ _, hz j hjm, ← hj, List.getElem?_map, List.getElem?_eq_getElem (by omega), List.getD_eq_getElem?_getD, List.getElem?_eq_getElem (by omega)]
    rfl) (fun u hu => by
    obtain ⟨x, _, rfl⟩ := List.mem_map.1 hu
    rfl) (by unfold maxLen; omega) (by omega) hbase
  have hv : ∃ g' c', v' = .slice (some ⟨g', 0, none⟩) (n + m) c' := by
    rcases h2.2 with ⟨e, h0⟩ | ⟨g', cap, cur, e, _⟩
    · have := (h4.1 e).1
      cases this
    · exact ⟨g', cap, e⟩
  obtain ⟨g', c', rfl⟩ := hv
  have keep : ∀ z : Hdr, OwnInts W lo (some ⟨z.g, 0, none⟩) z.l.length z.d z.l → OwnInts w' lo (some ⟨z.g, 0, none⟩) z.l.length z.d z.l := fun z hz => own_kept hz h3 (fun kk hkk e => own_type hz hC.top (by decide) kk hkk (by simpa [Value.ownBlock] using e))
  unfold Oper.wp execOp
  simp only [ho, resolve, invoke, builtin, Sem.run_bind, Sem.run_pure, Result.andThen_ok, List.map_toArray, List.map_cons, List.map_nil, hs, hx, hr]
  refine h g' c' w' ⟨by rw [List.map_append]; exact h2, fun z hz => ?_⟩ h3 (by rcases h5 with e | e <;> simp [Value.ownBlock] at e <;> omega)
  rcases List.mem_append.1 hz with e | e
  · exact keep z (hC.row z e)
  · exact keep z (hrow z e)
end Go.Proofs.YtlniogfinofakaaGreatDoor
/-
  One int or one list is appended to a slice of the call's own; where it then lies. Conditions: bounds on lengths.
-/
namespace Go.Proofs.YtlniogfinofakaaGreatDoor
set_option maxRecDepth 100000
set_option linter.unusedVariables false
set_option maxRecDepth 100000
open Go.RowKit

theorem app_int (ty : TypeId) (lo : Nat) (A : Option Addr) (n c : Nat) (l : List Int) (W : World) (hC : OwnInts W lo A n c l) (b : Nat) (x : Int) (hz : W.cell? ⟨b, 0, none⟩ = some (.int .i64 x)) (hn : n + 1 ≤ 1099511627776) (hbase : lo ≤ W.heap.size) :
    ∃ (g' c' : Nat) (w' : World), (Builtin.append_ #[45, 45] ty #[.slice A n c, .slice (some ⟨b, 0, none⟩) 1 1]).run Tryz.prog W = .ok (.slice (some ⟨g', 0, none⟩) (n + 1) c') w' ∧ OwnInts w' lo (some ⟨g', 0, none⟩) (n + 1) c' (l ++ [x]) ∧ W.grownBy w' (A.map (·.block)) ∧ (A.map (·.block) = some g' ∨ g' = W.heap.size) := by
  obtain ⟨i0, hi, hz0, hz1, hz2⟩ := info_parts info_int
  obtain ⟨v', w', hr, h2, h3, h4, h5⟩ := run_append_own_at (P := Tryz.prog) W lo 45 ty 3 i0 _ 1 8 Tryz.underlying45 hi hz0 hz1 hz2 rfl (by decide) _ n _ hC ⟨b, 0, none⟩ 1 1 ([x].map (Value.int .i64)) (by simp) (fun j u hj => by
    have hj0 : j = 0 := by
      have := (List.getElem?_eq_some_iff.1 hj).1
      simpa using this
    subst hj0
    rw [show (⟨b, 0, none⟩ : Addr).add 0 = ⟨b, 0, none⟩ from rfl, hz, ← hj]
    rfl) (fun u hu => by
    obtain ⟨x, _, rfl⟩ := List.mem_map.1 hu
    rfl) (by unfold maxLen; omega) (by omega) hbase
  have hv : ∃ g' c', v' = .slice (some ⟨g', 0, none⟩) (n + 1) c' := by
    rcases h2.2 with ⟨e, h0⟩ | ⟨g', cap, cur, e, _⟩
    · have := (h4.1 e).2
      cases this
    · exact ⟨g', cap, e⟩
  obtain ⟨g', c', rfl⟩ := hv
  have ho : (Value.slice A n c).ownBlock = A.map (·.block) := by cases A <;> rfl
  rw [ho] at h3 h5
  refine ⟨g', c', w', hr, by unfold OwnInts; rw [List.map_append]; exact h2, h3, ?_⟩
  rcases h5 with e | e
  · exact .inl (by rw [← e]; rfl)
  · exact .inr (by simpa [Value.ownBlock] using e)
theorem app_crd (ty : TypeId) (lo : Nat) (A : Option Addr) (n c : Nat) (R : List Hdr) (W : World) (hC : Crd W lo A n c R) (b : Nat) (x : Hdr) (hz : W.cell? ⟨b, 0, none⟩ = some x.v) (hrow : OwnInts W lo (some ⟨x.g, 0, none⟩) x.l.length x.d x.l) (hn : n + 1 ≤ 1099511627776) (hbase : lo ≤ W.heap.size) :
    ∃ (g' c' : Nat) (w' : World), (Builtin.append_ #[52, 52] ty #[.slice A n c, .slice (some ⟨b, 0, none⟩) 1 1]).run Tryz.prog W = .ok (.slice (some ⟨g', 0, none⟩) (n + 1) c') w' ∧ Crd w' lo (some ⟨g', 0, none⟩) (n + 1) c' (R ++ [x]) ∧ W.grownBy w' (A.map (·.block)) ∧ (A.map (·.block) = some g' ∨ g' = W.heap.size) := by
  obtain ⟨i0, hi, hz0, hz1, hz2⟩ := info_parts info_ints
  obtain ⟨v', w', hr, h2, h3, h4, h5⟩ := run_append_own_at (P := Tryz.prog) W lo 52 ty 45 i0 _ 1 24 Tryz.underlying52 hi hz0 hz1 hz2 rfl (by decide) _ n _ hC.top ⟨b, 0, none⟩ 1 1 ([x].map Hdr.v) (by simp) (fun j u hj => by
    have hj0 : j = 0 := by
      have := (List.getElem?_eq_some_iff.1 hj).1
      simpa using this
    subst hj0
    rw [show (⟨b, 0, none⟩ : Addr).add 0 = ⟨b, 0, none⟩ from rfl, hz, ← hj]
    rfl) (fun u hu => by
    obtain ⟨x, _, rfl⟩ := List.mem_map.1 hu
    rfl) (by unfold maxLen; omega) (by omega) hbase
  have hv : ∃ g' c', v' = .slice (some ⟨g', 0, none⟩) (n + 1) c' := by
    rcases h2.2 with ⟨e, h0⟩ | ⟨g', cap, cur, e, _⟩
    · have := (h4.1 e).2
      cases this
    · exact ⟨g', cap, e⟩
  obtain ⟨g', c', rfl⟩ := hv
  have ho : (Value.slice A n c).ownBlock = A.map (·.block) := by cases A <;> rfl
  rw [ho] at h3 h5
  have keep : ∀ z : Hdr, OwnInts W lo (some ⟨z.g, 0, none⟩) z.l.length z.d z.l → OwnInts w' lo (some ⟨z.g, 0, none⟩) z.l.length z.d z.l := fun z hz => own_kept hz h3 (fun kk hkk e => own_type hz hC.top (by decide) kk hkk e)
  refine ⟨g', c', w', hr, ⟨by rw [List.map_append]; exact h2, fun z hz => ?_⟩, h3, ?_⟩
  · rcases List.mem_append.1 hz with e | e
    · exact keep z (hC.row z e)
    · rw [List.mem_singleton] at e
      subst e
      exact keep z hrow
  · rcases h5 with e | e
    · exact .inl (by rw [← e]; rfl)
    · exact .inr (by simpa [Value.ownBlock] using e)
theorem wp_intH {ops : Array Oper} {rest : List Oper} {o : Oper} {a : Act} {Q : Exit → Act → World → Prop}
    (hgd : o.guard = none) (s y : Operand) (ho : o.op = .call { callee := .builtin .append, args := #[s, y], argTypes := #[45, 45] })
    (lo : Nat) (A : Option Addr) (n c : Nat) (l : List Int) (W : World) (hs : a.eval s = .slice A n c) (hC : OwnInts W lo A n c l)
    (b : Nat) (x : Int) (hz : W.cell? ⟨b, 0, none⟩ = some (.int .i64 x)) (hx : a.eval y = .slice (some ⟨b, 0, none⟩) 1 1) (hn : n + 1 ≤ 1099511627776) (hbase : lo ≤ W.heap.size)
    (h : ∀ (g' c' : Nat) (w' : World), OwnInts w' lo (some ⟨g', 0, none⟩) (n + 1) c' (l ++ [x]) → W.grownBy w' (A.map (·.block)) → (A.map (·.block) = some g' ∨ g' = W.heap.size) → wpList Tryz.prog ops Q rest (a.put o.dst (.slice (some ⟨g', 0, none⟩) (n + 1) c')) w') :
    wpList Tryz.prog ops Q (o :: rest) a W := by
  obtain ⟨g', c', w', hr, h1, h2, h3⟩ := app_int o.type lo A n c l W hC b x hz hn hbase
  refine wpList_plain hgd fun K hK => ?_
  unfold Oper.wp
  simp [execOp, ho, resolve, invoke, builtin, hs, hx, hr, Result.andThen]
  exact hK _ _ (h g' c' w' h1 h2 h3)
theorem wp_crdH {ops : Array Oper} {rest : List Oper} {o : Oper} {a : Act} {Q : Exit → Act → World → Prop}
    (hgd : o.guard = none) (s y : Operand) (ho : o.op = .call { callee := .builtin .append, args := #[s, y], argTypes := #[52, 52] })
    (lo : Nat) (A : Option Addr) (n c : Nat) (R : List Hdr) (W : World) (hs : a.eval s = .slice A n c) (hC : Crd W lo A n c R)
    (b : Nat) (x : Hdr) (hz : W.cell? ⟨b, 0, none⟩ = some x.v) (hrow : OwnInts W lo (some ⟨x.g, 0, none⟩) x.l.length x.d x.l) (hx : a.eval y = .slice (some ⟨b, 0, none⟩) 1 1) (hn : n + 1 ≤ 1099511627776) (hbase : lo ≤ W.heap.size)
    (h : ∀ (g' c' : Nat) (w' : World), Crd w' lo (some ⟨g', 0, none⟩) (n + 1) c' (R ++ [x]) → W.grownBy w' (A.map (·.block)) → (A.map (·.block) = some g' ∨ g' = W.heap.size) → wpList Tryz.prog ops Q rest (a.put o.dst (.slice (some ⟨g', 0, none⟩) (n + 1) c')) w') :
    wpList Tryz.prog ops Q (o :: rest) a W := by
  obtain ⟨g', c', w', hr, h1, h2, h3⟩ := app_crd o.type lo A n c R W hC b x hz hrow hn hbase
  refine wpList_plain hgd fun K hK => ?_
  unfold Oper.wp
  simp [execOp, ho, resolve, invoke, builtin, hs, hx, hr, Result.andThen]
  exact hK _ _ (h g' c' w' h1 h2 h3)
theorem step_intH {ops : Array Oper} {o : Oper} {a : Act} {K : Act → World → Prop} {Q : Exit → Act → World → Prop} {D : Prop}
    (hgd : o.guard = none) (s y : Operand) (ho : o.op = .call { callee := .builtin .append, args := #[s, y], argTypes := #[45, 45] })
    (lo : Nat) (A : Option Addr) (n c : Nat) (l : List Int) (W : World) (hs : a.eval s = .slice A n c) (hC : OwnInts W lo A n c l)
    (b : Nat) (x : Int) (hz : W.cell? ⟨b, 0, none⟩ = some (.int .i64 x)) (hx : a.eval y = .slice (some ⟨b, 0, none⟩) 1 1) (hn : n + 1 ≤ 1099511627776) (hbase : lo ≤ W.heap.size)
    (h : ∀ (g' c' : Nat) (w' : World), OwnInts w' lo (some ⟨g', 0, none⟩) (n + 1) c' (l ++ [x]) → W.grownBy w' (A.map (·.block)) → (A.map (·.block) = some g' ∨ g' = W.heap.size) → K (a.put o.dst (.slice (some ⟨g', 0, none⟩) (n + 1) c')) w') :
    if Region.wanted o (yielded ops a.tmps) = true then Oper.wp Tryz.prog o a W K Q else D := by
  have hw : Region.wanted o (yielded ops a.tmps) = true := by simp [Region.wanted, hgd]
  rw [if_pos hw]
  obtain ⟨g', c', w', hr, h1, h2, h3⟩ := app_int o.type lo A n c l W hC b x hz hn hbase
  unfold Oper.wp execOp
  simp only [ho, resolve, invoke, builtin, Sem.run_bind, Sem.run_pure, Result.andThen_ok, List.map_toArray, List.map_cons, List.map_nil, hs, hx, hr]
  exact h g' c' w' h1 h2 h3
end Go.Proofs.YtlniogfinofakaaGreatDoor
/-
  The reference's insert: a list with one more at its place, if it is not there. Conditions: lists of equal lengths; bounds on lengths.
-/
namespace Go.Proofs.YtlniogfinofakaaGreatDoor
set_option maxRecDepth 100000
set_option maxRecDepth 100000
set_option linter.unusedVariables false
open Go.RowKit

theorem Crd.empty {W : World} {lo g : Nat} (h : Blk W g 45 #[]) (hlo : lo ≤ g) : Crd W lo (some ⟨g, 0, none⟩) 0 0 [] :=
  ⟨⟨rfl, .inr ⟨g, 0, #[], rfl, hlo, h, Nat.le_refl _, Nat.zero_le _, rfl, rfl⟩⟩, fun h hh => by simp at hh⟩
theorem Keeps.grownAt {w0 W W' : World} (h : Keeps w0 W) {g1 : Nat} (hg : W.grownBy W' (some g1)) (h1 : w0.heap.size ≤ g1) : Keeps w0 W' :=
  ⟨hg.os.trans h.os, hg.tape.trans h.tape, hg.output.trans h.output, Nat.le_trans h.size hg.size, fun i hi => (hg.block i (Nat.lt_of_lt_of_le hi h.size) (fun e => absurd (show i = g1 by simpa using e) (by omega))).trans (h.block i hi)⟩
set_option maxRecDepth 100000 in
set_option maxHeartbeats 4000000 in
theorem insert_any (g m c lo n : Nat) (R : List Hdr) (x : Hdr) (w : World) (hR : Crn w lo (some ⟨g, 0, none⟩) m R) (hx : OwnInts w lo (some ⟨x.g, 0, none⟩) x.l.length x.d x.l) (hn : n ≤ 1000) (hxl : x.l.length = n) (hl : ∀ h ∈ R, h.l.length = n) (hm : m ≤ 100000) (hmc : m ≤ c) (hc : c ≤ 9223372036854775807) (hlo : lo ≤ w.heap.size) :
    Calls Tryz.prog 80 #[.slice (some ⟨g, 0, none⟩) m c, x.v] w fun e w' => ∃ g' m' c' R', e = .returned (.slice (some ⟨g', 0, none⟩) m' c') ∧ R'.map (·.l) = insL x.l (R.map (·.l)) ∧ (∀ h ∈ R', h ∈ R ∨ h = x) ∧ Crn w' lo (some ⟨g', 0, none⟩) m' R' ∧ (m' ≤ c' ∧ c' ≤ 9223372036854775807) ∧ Keeps w w' ∧ (w.heap.size ≤ g' ∨ (g' = g ∧ m' = m ∧ c' = c ∧ R' = R)) := by
  have hlen := hR.len
  have HR := Lib.hid hR
  have HX := Lib.hid hx
  have HL : Hid (∀ i, i < m → (R.getD i default).l.length = n) := Lib.hid (fun i hi => by
    refine hl _ ?_
    rw [List.getD_eq_getElem?_getD, List.getElem?_eq_getElem (by omega)]
    exact List.getElem_mem _)
  have HG : Hid (∀ i, i < m → (R.map (·.l)).getD i [] = (R.getD i default).l) := Lib.hid (fun i hi => by
    rw [List.getD_eq_getElem?_getD, List.getElem?_map, List.getElem?_eq_getElem (by omega), List.getD_eq_getElem?_getD, List.getElem?_eq_getElem (by omega)]
    rfl)
  have HXL := Lib.hid hxl
  have HLEN := Lib.hid hlen
  clear hR hx hl hlen
  unfold Hdr.v
  rw [hxl]
  obtain ⟨xg, hxg⟩ : ∃ y, y = x.g := ⟨_, rfl⟩
  obtain ⟨xc, hxc⟩ : ∃ y, y = x.c := ⟨_, rfl⟩
  rw [← hxg, ← hxc]
  have HXG := Lib.hid (And.intro hxg hxc)
  have CLS : Hid (∀ w', Keeps w w' → ∀ i, i < m → Calls Tryz.prog 113 #[.slice (some ⟨(R.getD i default).g, 0, none⟩) n (R.getD i default).c, .slice (some ⟨xg, 0, none⟩) n xc] w' fun e w'' => e = .returned (.bool (ltL (R.getD i default).l x.l)) ∧ Keeps w' w'') := Lib.hid (fun w' hk i hi =>
    less_any _ _ n _ _ _ _ w' (HL.out i hi) hxl (by omega) (by have h := ((HR.out.keeps hk).rowD i hi).ints; rwa [HL.out i hi] at h) (by have h := (HX.out.keeps hk).ints; rw [hxl] at h; rwa [hxg]))
  have CSM : Hid (∀ w', Keeps w w' → ∀ i, i < m → Calls Tryz.prog 55 #[.slice (some ⟨(R.getD i default).g, 0, none⟩) n (R.getD i default).c, .slice (some ⟨xg, 0, none⟩) n xc] w' fun e w'' => e = .returned (.bool (decide ((R.getD i default).l = x.l))) ∧ Keeps w' w'') := Lib.hid (fun w' hk i hi =>
    same_any _ _ n _ _ _ _ w' (HL.out i hi) hxl (by omega) (by have h := ((HR.out.keeps hk).rowD i hi).ints; rwa [HL.out i hi] at h) (by have h := (HX.out.keeps hk).ints; rw [hxl] at h; rwa [hxg]))
  have HCELL : Hid (∀ w', Keeps w w' → ∀ i, i < m → w'.cell? ⟨g, i, none⟩ = some (.slice (some ⟨(R.getD i default).g, 0, none⟩) n (R.getD i default).c)) := Lib.hid (fun w' hk i hi => by
    rw [(HR.out.keeps hk).cell i hi]
    unfold Hdr.v
    rw [HL.out i hi])
  clear hxg hxc hxl
  go_enter Tryz.func80, Tryz.ntmps80
  go_wp2_with fail
  go_loopw [5] (fun i wr => ∃ k : Nat, k ≤ m ∧ i = .int .i64 k ∧ Hid (∀ i, i < k → ltL (R.getD i default).l x.l = true) ∧ Hid (Keeps w wr)) (fun i _ => m - (intOf i).toNat)
  case atStart => exact ⟨0, by omega, rfl, Lib.hid (fun i hi => absurd hi (Nat.not_lt_zero _)), Lib.hid (Keeps.refl _)⟩
  case round =>
    obtain ⟨k, hk, rfl, HA, HK⟩ := hrel
    by_cases hlt : k < m
    · have hki : (k : Int) < m := by omega
      have hcell := HCELL.out wr HK.out k hlt
      have HLE := Lib.hid (CLS.out wr HK.out k hlt)
      have CS2 := Lib.hid (fun w' hk => CSM.out w' hk k hlt)
      generalize hgk : (R.getD k default).g = gk at *
      generalize hck : (R.getD k default).c = ck at *
      cases hb : ltL (R.getD k default).l x.l
      · rw [hb] at HLE
        have HST : Hid (k = cutL x.l (R.map (·.l))) := Lib.hid (cutL_eq (by rw [List.length_map, HLEN.out]; omega) (fun i hi => by rw [HG.out i (by omega)]; exact HA.out i hi) (fun _ => by rw [HG.out k hlt]; exact hb))
        clear hb
        go_wp2_with fail
        refine HLE.out.mono ?_
        rintro e w1 ⟨rfl, hk1⟩
        have HK1 := Lib.hid (HK.out.step hk1)
        have hcell1 := cell_keeps hk1 hcell
        have CS3 := Lib.hid (CS2.out w1 HK1.out)
        clear hk1 hcell HLE CS2
        cases hs : decide ((R.getD k default).l = x.l)
        · rw [hs] at CS3
          have HNE : Hid (insL x.l (R.map (·.l)) = (R.take k).map (·.l) ++ x.l :: (R.drop k).map (·.l)) := Lib.hid (by
            unfold insL
            rw [← HST.out, if_neg (fun h => of_decide_eq_false hs (by rw [← HG.out k hlt]; exact h.2)), List.map_take, List.map_drop])
          clear hs
          go_wp2_with fail
          refine CS3.out.mono ?_
          rintro e w2 ⟨rfl, hk2⟩
          have HK2 := Lib.hid (HK1.out.step hk2)
          clear hk2 CS3 hcell1
          have hkm : (k : Int) ≤ m := by omega
          have hkc : (k : Int) ≤ c := by omega
          have hmci : (m : Int) ≤ c := by omega
          have hck2 : c ≠ k := by omega
          have hck3 : (c : Int) ≠ k := by omega
          have HZ1 : Hid (∀ W, Keeps w W → ∀ j, j < k → W.cell? ⟨g, 0 + j, none⟩ = some ((R.take k).getD j default).v) := Lib.hid (fun W hK j hj => by
            rw [Nat.zero_add, (HR.out.keeps hK).cell j (by omega), List.getD_eq_getElem?_getD, List.getD_eq_getElem?_getD, List.getElem?_take_of_lt hj])
          have HZ2 : Hid (∀ W, Keeps w W → ∀ j, j < m - k → W.cell? ⟨g, k + j, none⟩ = some ((R.drop k).getD j default).v) := Lib.hid (fun W hK j hj => by
            rw [(HR.out.keeps hK).cell (k + j) (by omega), List.getD_eq_getElem?_getD, List.getD_eq_getElem?_getD, List.getElem?_drop])
          have HRW : Hid (∀ W, Keeps w W → ∀ h ∈ R, OwnInts W lo (some ⟨h.g, 0, none⟩) h.l.length h.d h.l) := Lib.hid (fun W hK h hh => (HR.out.keeps hK).row h hh)
          have HXW : Hid (∀ W, Keeps w W → ∀ h ∈ [x], OwnInts W lo (some ⟨h.g, 0, none⟩) h.l.length h.d h.l) := Lib.hid (fun W hK h hh => by rw [List.mem_singleton] at hh; subst hh; exact HX.out.keeps hK)
          have HXV : Hid (∀ W B, Blk W B 45 #[.slice (some ⟨xg, 0, none⟩) n xc] → ∀ j, j < 1 → W.cell? ⟨B, 0 + j, none⟩ = some (([x].getD j default)).v) := Lib.hid (fun W B hb j hj => by
            obtain rfl : j = 0 := by omega
            rw [Nat.zero_add, hb.cell 0]
            unfold Hdr.v
            rw [HXG.out.1, HXG.out.2, ← HXL.out]
            rfl)
          have HTK : Hid ((R.take k).length = k) := Lib.hid (by rw [List.length_take]; have := HLEN.out; omega)
          have HDP : Hid ((R.drop k).length = m - k) := Lib.hid (by rw [List.length_drop]; have := HLEN.out; omega)
          have hsz2 : w.heap.size ≤ w2.heap.size := HK2.out.size
          have HBa : Hid (Blk (w2.alloc (.cells #[] 45)).drew w2.heap.size 45 #[]) := Lib.hid (Blk.new w2 _ _)
          have HBb : Hid (Blk ((w2.alloc (.cells #[] 45)).alloc (.cells #[.slice (some ⟨xg, 0, none⟩) n xc] 45)).drew w2.heap.size 45 #[]) := Lib.hid ((Blk.new w2 _ _).keeps ((Keeps.alloc _ _).step (Keeps.drew1 _)))
          have HBb2 : Hid (Blk ((w2.alloc (.cells #[] 45)).alloc (.cells #[.slice (some ⟨xg, 0, none⟩) n xc] 45)).drew (w2.heap.size + 1) 45 #[.slice (some ⟨xg, 0, none⟩) n xc]) := Lib.hid (blk_at (by simp) (Blk.new (w2.alloc (.cells #[] 45)) #[.slice (some ⟨xg, 0, none⟩) n xc] 45))
          have HBc : Hid (Blk ((w2.alloc (.cells #[.slice (some ⟨xg, 0, none⟩) n xc] 45)).alloc (.cells #[] 45)).drew (w2.heap.size + 1) 45 #[]) := Lib.hid (blk_at (by simp) (Blk.new (w2.alloc (.cells #[.slice (some ⟨xg, 0, none⟩) n xc] 45)) #[] 45))
          have HBc2 : Hid (Blk ((w2.alloc (.cells #[.slice (some ⟨xg, 0, none⟩) n xc] 45)).alloc (.cells #[] 45)).drew w2.heap.size 45 #[.slice (some ⟨xg, 0, none⟩) n xc]) := Lib.hid ((Blk.new w2 _ _).keeps ((Keeps.alloc _ _).step (Keeps.drew1 _)))
          have KA : Hid (Keeps w2 (w2.alloc (.cells #[] 45)).drew) := Lib.hid ((Keeps.alloc w2 _).step (Keeps.drew1 _))
          have KB : Hid (Keeps w2 ((w2.alloc (.cells #[] 45)).alloc (.cells #[.slice (some ⟨xg, 0, none⟩) n xc] 45)).drew) := Lib.hid (((Keeps.alloc w2 _).step (Keeps.alloc _ _)).step (Keeps.drew1 _))
          have KC : Hid (Keeps w2 ((w2.alloc (.cells #[.slice (some ⟨xg, 0, none⟩) n xc] 45)).alloc (.cells #[] 45)).drew) := Lib.hid (((Keeps.alloc w2 _).step (Keeps.alloc _ _)).step (Keeps.drew1 _))
          have hlo2 : lo ≤ w2.heap.size := by omega
          go_wp2_with fail
          go_region_law (first | (refine step_spread_crd rfl (.tmp 40) (.tmp 43) rfl lo g4 (k + 1) c4 _ _ rfl hC4 _ _ (m - k) _ rfl (R.drop k) HDP.out (HZ2.out _ (HK2.out.step hK4)) (fun h hh => HRW.out _ (HK2.out.step hK4) h (List.mem_of_mem_drop hh)) (by omega) (Nat.le_trans hlo2 hK4.size) ?_; intro g5 c5 w5 hC5 hg5 hor5) | (refine step_spread_crd rfl (.tmp 37) (.tmp 39) rfl lo g3 k c3 _ _ rfl (hC3.keeps (Keeps.alloc _ _)) w3.heap.size 0 1 1 rfl [x] rfl (HXV.out _ _ (hpA w3)) (HXW.out _ ((HK2.out.step hK3).step (Keeps.alloc _ _))) (by omega) (Nat.le_trans (Nat.le_trans hlo2 hK3.size) (Keeps.alloc w3 _).size) ?_; intro g4 c4 w4 hC4 hg4 hor4; have hK4 := (hK3.step (Keeps.alloc w3 _)).grownAt hg4 hg3w; have hg4w : w2.heap.size ≤ g4 := (by have h1 := (hK3.step (Keeps.alloc w3 (.cells #[.slice (some ⟨xg, 0, none⟩) n xc] 45))).size; rcases hor4 with e | e <;> omega)) | (refine step_spread_crd rfl (.tmp 37) (.tmp 39) rfl lo g3 k c3 _ _ rfl hC3 _ 0 1 1 rfl [x] rfl (HXV.out _ _ hBx3) (HXW.out _ (HK2.out.step hK3)) (by omega) (Nat.le_trans hlo2 hK3.size) ?_; intro g4 c4 w4 hC4 hg4 hor4; have hK4 := hK3.grownAt hg4 hg3w; have hg4w : w2.heap.size ≤ g4 := (by have h1 := hK3.size; rcases hor4 with e | e <;> omega)) | (refine step_spread_crd rfl (.tmp 33) (.tmp 36) rfl lo (w2.heap.size) 0 0 [] _ rfl (Crd.empty HBa.out (by omega)) g 0 k c rfl (R.take k) HTK.out (HZ1.out _ (HK2.out.step KA.out)) (fun h hh => HRW.out _ (HK2.out.step KA.out) h (List.mem_of_mem_take hh)) (by omega) (Nat.le_trans hlo2 (KA.out).size) ?_; intro g3 c3 w3 hC3 hg3 hor3; rw [Nat.zero_add, List.nil_append] at hC3; have hK3 := (KA.out).grownAt hg3 (by omega); have hg3w : w2.heap.size ≤ g3 := (by have h1 := (KA.out).size; rcases hor3 with e | e <;> omega); have hpA : ∀ W : World, Blk (W.alloc (.cells #[.slice (some ⟨xg, 0, none⟩) n xc] 45)) W.heap.size 45 #[.slice (some ⟨xg, 0, none⟩) n xc] := fun W => Blk.new W _ _) | (refine step_spread_crd rfl (.tmp 33) (.tmp 36) rfl lo (w2.heap.size) 0 0 [] _ rfl (Crd.empty HBb.out (by omega)) g 0 k c rfl (R.take k) HTK.out (HZ1.out _ (HK2.out.step KB.out)) (fun h hh => HRW.out _ (HK2.out.step KB.out) h (List.mem_of_mem_take hh)) (by omega) (Nat.le_trans hlo2 (KB.out).size) ?_; intro g3 c3 w3 hC3 hg3 hor3; rw [Nat.zero_add, List.nil_append] at hC3; have hK3 := (KB.out).grownAt hg3 (by omega); have hg3w : w2.heap.size ≤ g3 := (by have h1 := (KB.out).size; rcases hor3 with e | e <;> omega); have hBx3 := HBb2.out.grown hg3 (by simp)) | (refine step_spread_crd rfl (.tmp 33) (.tmp 36) rfl lo (w2.heap.size + 1) 0 0 [] _ rfl (Crd.empty HBc.out (by omega)) g 0 k c rfl (R.take k) HTK.out (HZ1.out _ (HK2.out.step KC.out)) (fun h hh => HRW.out _ (HK2.out.step KC.out) h (List.mem_of_mem_take hh)) (by omega) (Nat.le_trans hlo2 (KC.out).size) ?_; intro g3 c3 w3 hC3 hg3 hor3; rw [Nat.zero_add, List.nil_append] at hC3; have hK3 := (KC.out).grownAt hg3 (by omega); have hg3w : w2.heap.size ≤ g3 := (by have h1 := (KC.out).size; rcases hor3 with e | e <;> omega); have hBx3 := HBc2.out.grown hg3 (by simp)))
          all_goals
            have HK5 := Lib.hid (HK2.out.step (hK4.grownAt hg5 hg4w))
            have HC5 := Lib.hid hC5
            have HGE : Hid (w.heap.size ≤ g5) := Lib.hid (by have h1 := hK4.size; rcases hor5 with e | e <;> omega)
            have HCC : Hid (k + 1 + (m - k) ≤ c5 ∧ c5 ≤ 9223372036854775807) := Lib.hid (by
              obtain ⟨_, _, _, h1, h2, _, _⟩ := hC5.top_blk
              unfold maxLen at h2
              omega)
            have HFE : Hid ((R.take k ++ [x] ++ R.drop k).map (·.l) = insL x.l (R.map (·.l))) := Lib.hid (by rw [HNE.out]; simp)
            have HFM : Hid (∀ h ∈ R.take k ++ [x] ++ R.drop k, h ∈ R ∨ h = x) := Lib.hid (fun h hh => by
              rcases List.mem_append.1 hh with e | e
              · rcases List.mem_append.1 e with e | e
                · exact .inl (List.mem_of_mem_take e)
                · exact .inr (List.mem_singleton.1 e)
              · exact .inl (List.mem_of_mem_drop e))
            go_wp2_with fail
            go_ret
            first | exact ⟨g5, k + 1 + (m - k), c5, rfl, _, HFE.out, HFM.out, HC5.out.crn, HCC.out, HK5.out, .inl HGE.out⟩ | exact ⟨g5, k + 1 + (m - k), c5, _, rfl, HFE.out, HFM.out, HC5.out.crn, HCC.out, HK5.out, .inl HGE.out⟩
        · rw [hs] at CS3
          have HEQ : Hid (insL x.l (R.map (·.l)) = R.map (·.l)) := Lib.hid (by
            unfold insL
            rw [← HST.out, if_pos ⟨by rw [List.length_map, HLEN.out]; exact hlt, by rw [HG.out k hlt]; exact of_decide_eq_true hs⟩])
          clear hs
          go_wp2_with fail
          refine CS3.out.mono ?_
          rintro e w2 ⟨rfl, hk2⟩
          have HK2 := Lib.hid (HK1.out.step hk2)
          clear hk2 CS3
          go_wp2_with fail
          go_ret
          exact ⟨g, m, c, R, rfl, HEQ.out.symm, fun h hh => .inl hh, HR.out.keeps HK2.out, ⟨hmc, hc⟩, HK2.out, .inr ⟨rfl, rfl, rfl, rfl⟩⟩
      · rw [hb] at HLE
        have HB := Lib.hid hb
        clear hb
        go_wp2_with fail
        refine HLE.out.mono ?_
        rintro e w1 ⟨rfl, hk1⟩
        have HK1 := Lib.hid (HK.out.step hk1)
        clear hk1 CS2
        go_wp2_with fail
        go_roundw
        case rel =>
          refine ⟨k + 1, by omega, by go_num, Lib.hid (fun i hi => ?_), HK1⟩
          by_cases e : i = k
          · rw [e]; exact HB.out
          · exact HA.out i (by omega)
        case measure => simp [intOf]; omega
    · obtain rfl : k = m := by omega
      have HNE : Hid (insL x.l (R.map (·.l)) = R.map (·.l) ++ [x.l]) := Lib.hid (by
        have h : k = cutL x.l (R.map (·.l)) := cutL_eq (by rw [List.length_map, HLEN.out]; omega) (fun i hi => by rw [HG.out i (by omega)]; exact HA.out i hi) (fun h => by rw [List.length_map, HLEN.out] at h; omega)
        unfold insL
        rw [← h, if_neg (fun h => by have := h.1; rw [List.length_map, HLEN.out] at this; omega), List.take_of_length_le (by rw [List.length_map, HLEN.out]; omega), List.drop_eq_nil_of_le (by rw [List.length_map, HLEN.out]; omega)])
      replace HNE : Hid (insL x.l (R.map (·.l)) = (R.take k).map (·.l) ++ x.l :: (R.drop k).map (·.l)) := Lib.hid (by rw [HNE.out, List.take_of_length_le (by have := HLEN.out; omega), List.drop_eq_nil_of_le (by have := HLEN.out; omega)]; simp)
      have hkc : (k : Int) ≤ c := by omega
      have hkk0 : ¬ (k : Int) < k := by omega
      by_cases hck2 : c = k
      · replace hck2 := hck2.symm
        subst hck2
        have HZ1 : Hid (∀ W, Keeps w W → ∀ j, j < k → W.cell? ⟨g, 0 + j, none⟩ = some ((R.take k).getD j default).v) := Lib.hid (fun W hK j hj => by
          rw [Nat.zero_add, (HR.out.keeps hK).cell j (by omega), List.getD_eq_getElem?_getD, List.getD_eq_getElem?_getD, List.getElem?_take_of_lt hj])
        have HZ2 : Hid (∀ W, Keeps w W → ∀ j, j < 0 → W.cell? ⟨g, k + j, none⟩ = some ((R.drop k).getD j default).v) := Lib.hid (fun W hK j hj => by
          rw [(HR.out.keeps hK).cell (k + j) (by omega), List.getD_eq_getElem?_getD, List.getD_eq_getElem?_getD, List.getElem?_drop])
        have HRW : Hid (∀ W, Keeps w W → ∀ h ∈ R, OwnInts W lo (some ⟨h.g, 0, none⟩) h.l.length h.d h.l) := Lib.hid (fun W hK h hh => (HR.out.keeps hK).row h hh)
        have HXW : Hid (∀ W, Keeps w W → ∀ h ∈ [x], OwnInts W lo (some ⟨h.g, 0, none⟩) h.l.length h.d h.l) := Lib.hid (fun W hK h hh => by rw [List.mem_singleton] at hh; subst hh; exact HX.out.keeps hK)
        have HXV : Hid (∀ W B, Blk W B 45 #[.slice (some ⟨xg, 0, none⟩) n xc] → ∀ j, j < 1 → W.cell? ⟨B, 0 + j, none⟩ = some (([x].getD j default)).v) := Lib.hid (fun W B hb j hj => by
          obtain rfl : j = 0 := by omega
          rw [Nat.zero_add, hb.cell 0]
          unfold Hdr.v
          rw [HXG.out.1, HXG.out.2, ← HXL.out]
          rfl)
        have HTK : Hid ((R.take k).length = k) := Lib.hid (by rw [List.length_take]; have := HLEN.out; omega)
        have HDP : Hid ((R.drop k).length = 0) := Lib.hid (by rw [List.length_drop]; have := HLEN.out; omega)
        have hsz2 : w.heap.size ≤ wr.heap.size := HK.out.size
        have HBa : Hid (Blk (wr.alloc (.cells #[] 45)).drew wr.heap.size 45 #[]) := Lib.hid (Blk.new wr _ _)
        have HBb : Hid (Blk ((wr.alloc (.cells #[] 45)).alloc (.cells #[.slice (some ⟨xg, 0, none⟩) n xc] 45)).drew wr.heap.size 45 #[]) := Lib.hid ((Blk.new wr _ _).keeps ((Keeps.alloc _ _).step (Keeps.drew1 _)))
        have HBb2 : Hid (Blk ((wr.alloc (.cells #[] 45)).alloc (.cells #[.slice (some ⟨xg, 0, none⟩) n xc] 45)).drew (wr.heap.size + 1) 45 #[.slice (some ⟨xg, 0, none⟩) n xc]) := Lib.hid (blk_at (by simp) (Blk.new (wr.alloc (.cells #[] 45)) #[.slice (some ⟨xg, 0, none⟩) n xc] 45))
        have HBc : Hid (Blk ((wr.alloc (.cells #[.slice (some ⟨xg, 0, none⟩) n xc] 45)).alloc (.cells #[] 45)).drew (wr.heap.size + 1) 45 #[]) := Lib.hid (blk_at (by simp) (Blk.new (wr.alloc (.cells #[.slice (some ⟨xg, 0, none⟩) n xc] 45)) #[] 45))
        have HBc2 : Hid (Blk ((wr.alloc (.cells #[.slice (some ⟨xg, 0, none⟩) n xc] 45)).alloc (.cells #[] 45)).drew wr.heap.size 45 #[.slice (some ⟨xg, 0, none⟩) n xc]) := Lib.hid ((Blk.new wr _ _).keeps ((Keeps.alloc _ _).step (Keeps.drew1 _)))
        have KA : Hid (Keeps wr (wr.alloc (.cells #[] 45)).drew) := Lib.hid ((Keeps.alloc wr _).step (Keeps.drew1 _))
        have KB : Hid (Keeps wr ((wr.alloc (.cells #[] 45)).alloc (.cells #[.slice (some ⟨xg, 0, none⟩) n xc] 45)).drew) := Lib.hid (((Keeps.alloc wr _).step (Keeps.alloc _ _)).step (Keeps.drew1 _))
        have KC : Hid (Keeps wr ((wr.alloc (.cells #[.slice (some ⟨xg, 0, none⟩) n xc] 45)).alloc (.cells #[] 45)).drew) := Lib.hid (((Keeps.alloc wr _).step (Keeps.alloc _ _)).step (Keeps.drew1 _))
        have hlo2 : lo ≤ wr.heap.size := by omega
        go_wp2_with fail
        go_region_law (first | (refine step_spread_crd rfl (.tmp 40) (.tmp 43) rfl lo g4 (k + 1) c4 _ _ rfl hC4 _ _ (0) _ rfl (R.drop k) HDP.out (fun j hj => absurd hj (Nat.not_lt_zero _)) (fun h hh => HRW.out _ (HK.out.step hK4) h (List.mem_of_mem_drop hh)) (by omega) (Nat.le_trans hlo2 hK4.size) ?_; intro g5 c5 w5 hC5 hg5 hor5) | (refine step_spread_crd rfl (.tmp 37) (.tmp 39) rfl lo g3 k c3 _ _ rfl (hC3.keeps (Keeps.alloc _ _)) w3.heap.size 0 1 1 rfl [x] rfl (HXV.out _ _ (hpA w3)) (HXW.out _ ((HK.out.step hK3).step (Keeps.alloc _ _))) (by omega) (Nat.le_trans (Nat.le_trans hlo2 hK3.size) (Keeps.alloc w3 _).size) ?_; intro g4 c4 w4 hC4 hg4 hor4; have hK4 := (hK3.step (Keeps.alloc w3 _)).grownAt hg4 hg3w; have hg4w : wr.heap.size ≤ g4 := (by have h1 := (hK3.step (Keeps.alloc w3 (.cells #[.slice (some ⟨xg, 0, none⟩) n xc] 45))).size; rcases hor4 with e | e <;> omega)) | (refine step_spread_crd rfl (.tmp 37) (.tmp 39) rfl lo g3 k c3 _ _ rfl hC3 _ 0 1 1 rfl [x] rfl (HXV.out _ _ hBx3) (HXW.out _ (HK.out.step hK3)) (by omega) (Nat.le_trans hlo2 hK3.size) ?_; intro g4 c4 w4 hC4 hg4 hor4; have hK4 := hK3.grownAt hg4 hg3w; have hg4w : wr.heap.size ≤ g4 := (by have h1 := hK3.size; rcases hor4 with e | e <;> omega)) | (refine step_spread_crd rfl (.tmp 33) (.tmp 36) rfl lo (wr.heap.size) 0 0 [] _ rfl (Crd.empty HBa.out (by omega)) g 0 k k rfl (R.take k) HTK.out (HZ1.out _ (HK.out.step KA.out)) (fun h hh => HRW.out _ (HK.out.step KA.out) h (List.mem_of_mem_take hh)) (by omega) (Nat.le_trans hlo2 (KA.out).size) ?_; intro g3 c3 w3 hC3 hg3 hor3; rw [Nat.zero_add, List.nil_append] at hC3; have hK3 := (KA.out).grownAt hg3 (by omega); have hg3w : wr.heap.size ≤ g3 := (by have h1 := (KA.out).size; rcases hor3 with e | e <;> omega); have hpA : ∀ W : World, Blk (W.alloc (.cells #[.slice (some ⟨xg, 0, none⟩) n xc] 45)) W.heap.size 45 #[.slice (some ⟨xg, 0, none⟩) n xc] := fun W => Blk.new W _ _) | (refine step_spread_crd rfl (.tmp 33) (.tmp 36) rfl lo (wr.heap.size) 0 0 [] _ rfl (Crd.empty HBb.out (by omega)) g 0 k k rfl (R.take k) HTK.out (HZ1.out _ (HK.out.step KB.out)) (fun h hh => HRW.out _ (HK.out.step KB.out) h (List.mem_of_mem_take hh)) (by omega) (Nat.le_trans hlo2 (KB.out).size) ?_; intro g3 c3 w3 hC3 hg3 hor3; rw [Nat.zero_add, List.nil_append] at hC3; have hK3 := (KB.out).grownAt hg3 (by omega); have hg3w : wr.heap.size ≤ g3 := (by have h1 := (KB.out).size; rcases hor3 with e | e <;> omega); have hBx3 := HBb2.out.grown hg3 (by simp)) | (refine step_spread_crd rfl (.tmp 33) (.tmp 36) rfl lo (wr.heap.size + 1) 0 0 [] _ rfl (Crd.empty HBc.out (by omega)) g 0 k k rfl (R.take k) HTK.out (HZ1.out _ (HK.out.step KC.out)) (fun h hh => HRW.out _ (HK.out.step KC.out) h (List.mem_of_mem_take hh)) (by omega) (Nat.le_trans hlo2 (KC.out).size) ?_; intro g3 c3 w3 hC3 hg3 hor3; rw [Nat.zero_add, List.nil_append] at hC3; have hK3 := (KC.out).grownAt hg3 (by omega); have hg3w : wr.heap.size ≤ g3 := (by have h1 := (KC.out).size; rcases hor3 with e | e <;> omega); have hBx3 := HBc2.out.grown hg3 (by simp)))
        all_goals
          have HK5 := Lib.hid (HK.out.step (hK4.grownAt hg5 hg4w))
          have HC5 := Lib.hid hC5
          have HGE : Hid (w.heap.size ≤ g5) := Lib.hid (by have h1 := hK4.size; rcases hor5 with e | e <;> omega)
          have HCC : Hid (k + 1 + 0 ≤ c5 ∧ c5 ≤ 9223372036854775807) := Lib.hid (by
            obtain ⟨_, _, _, h1, h2, _, _⟩ := hC5.top_blk
            unfold maxLen at h2
            omega)
          have HFE : Hid ((R.take k ++ [x] ++ R.drop k).map (·.l) = insL x.l (R.map (·.l))) := Lib.hid (by rw [HNE.out]; simp)
          have HFM : Hid (∀ h ∈ R.take k ++ [x] ++ R.drop k, h ∈ R ∨ h = x) := Lib.hid (fun h hh => by
            rcases List.mem_append.1 hh with e | e
            · rcases List.mem_append.1 e with e | e
              · exact .inl (List.mem_of_mem_take e)
              · exact .inr (List.mem_singleton.1 e)
            · exact .inl (List.mem_of_mem_drop e))
          go_wp2_with fail
          go_ret
          first | exact ⟨g5, k + 1 + 0, c5, rfl, _, HFE.out, HFM.out, HC5.out.crn, HCC.out, HK5.out, .inl HGE.out⟩ | exact ⟨g5, k + 1 + 0, c5, _, rfl, HFE.out, HFM.out, HC5.out.crn, HCC.out, HK5.out, .inl HGE.out⟩
      · have hck3 : (c : Int) ≠ k := by omega
        have HZ1 : Hid (∀ W, Keeps w W → ∀ j, j < k → W.cell? ⟨g, 0 + j, none⟩ = some ((R.take k).getD j default).v) := Lib.hid (fun W hK j hj => by
          rw [Nat.zero_add, (HR.out.keeps hK).cell j (by omega), List.getD_eq_getElem?_getD, List.getD_eq_getElem?_getD, List.getElem?_take_of_lt hj])
        have HZ2 : Hid (∀ W, Keeps w W → ∀ j, j < 0 → W.cell? ⟨g, k + j, none⟩ = some ((R.drop k).getD j default).v) := Lib.hid (fun W hK j hj => by
          rw [(HR.out.keeps hK).cell (k + j) (by omega), List.getD_eq_getElem?_getD, List.getD_eq_getElem?_getD, List.getElem?_drop])
        have HRW : Hid (∀ W, Keeps w W → ∀ h ∈ R, OwnInts W lo (some ⟨h.g, 0, none⟩) h.l.length h.d h.l) := Lib.hid (fun W hK h hh => (HR.out.keeps hK).row h hh)
        have HXW : Hid (∀ W, Keeps w W → ∀ h ∈ [x], OwnInts W lo (some ⟨h.g, 0, none⟩) h.l.length h.d h.l) := Lib.hid (fun W hK h hh => by rw [List.mem_singleton] at hh; subst hh; exact HX.out.keeps hK)
        have HXV : Hid (∀ W B, Blk W B 45 #[.slice (some ⟨xg, 0, none⟩) n xc] → ∀ j, j < 1 → W.cell? ⟨B, 0 + j, none⟩ = some (([x].getD j default)).v) := Lib.hid (fun W B hb j hj => by
          obtain rfl : j = 0 := by omega
          rw [Nat.zero_add, hb.cell 0]
          unfold Hdr.v
          rw [HXG.out.1, HXG.out.2, ← HXL.out]
          rfl)
        have HTK : Hid ((R.take k).length = k) := Lib.hid (by rw [List.length_take]; have := HLEN.out; omega)
        have HDP : Hid ((R.drop k).length = 0) := Lib.hid (by rw [List.length_drop]; have := HLEN.out; omega)
        have hsz2 : w.heap.size ≤ wr.heap.size := HK.out.size
        have HBa : Hid (Blk (wr.alloc (.cells #[] 45)).drew wr.heap.size 45 #[]) := Lib.hid (Blk.new wr _ _)
        have HBb : Hid (Blk ((wr.alloc (.cells #[] 45)).alloc (.cells #[.slice (some ⟨xg, 0, none⟩) n xc] 45)).drew wr.heap.size 45 #[]) := Lib.hid ((Blk.new wr _ _).keeps ((Keeps.alloc _ _).step (Keeps.drew1 _)))
        have HBb2 : Hid (Blk ((wr.alloc (.cells #[] 45)).alloc (.cells #[.slice (some ⟨xg, 0, none⟩) n xc] 45)).drew (wr.heap.size + 1) 45 #[.slice (some ⟨xg, 0, none⟩) n xc]) := Lib.hid (blk_at (by simp) (Blk.new (wr.alloc (.cells #[] 45)) #[.slice (some ⟨xg, 0, none⟩) n xc] 45))
        have HBc : Hid (Blk ((wr.alloc (.cells #[.slice (some ⟨xg, 0, none⟩) n xc] 45)).alloc (.cells #[] 45)).drew (wr.heap.size + 1) 45 #[]) := Lib.hid (blk_at (by simp) (Blk.new (wr.alloc (.cells #[.slice (some ⟨xg, 0, none⟩) n xc] 45)) #[] 45))
        have HBc2 : Hid (Blk ((wr.alloc (.cells #[.slice (some ⟨xg, 0, none⟩) n xc] 45)).alloc (.cells #[] 45)).drew wr.heap.size 45 #[.slice (some ⟨xg, 0, none⟩) n xc]) := Lib.hid ((Blk.new wr _ _).keeps ((Keeps.alloc _ _).step (Keeps.drew1 _)))
        have KA : Hid (Keeps wr (wr.alloc (.cells #[] 45)).drew) := Lib.hid ((Keeps.alloc wr _).step (Keeps.drew1 _))
        have KB : Hid (Keeps wr ((wr.alloc (.cells #[] 45)).alloc (.cells #[.slice (some ⟨xg, 0, none⟩) n xc] 45)).drew) := Lib.hid (((Keeps.alloc wr _).step (Keeps.alloc _ _)).step (Keeps.drew1 _))
        have KC : Hid (Keeps wr ((wr.alloc (.cells #[.slice (some ⟨xg, 0, none⟩) n xc] 45)).alloc (.cells #[] 45)).drew) := Lib.hid (((Keeps.alloc wr _).step (Keeps.alloc _ _)).step (Keeps.drew1 _))
        have hlo2 : lo ≤ wr.heap.size := by omega
        go_wp2_with fail
        go_region_law (first | (refine step_spread_crd rfl (.tmp 40) (.tmp 43) rfl lo g4 (k + 1) c4 _ _ rfl hC4 _ _ (0) _ rfl (R.drop k) HDP.out (fun j hj => absurd hj (Nat.not_lt_zero _)) (fun h hh => HRW.out _ (HK.out.step hK4) h (List.mem_of_mem_drop hh)) (by omega) (Nat.le_trans hlo2 hK4.size) ?_; intro g5 c5 w5 hC5 hg5 hor5) | (refine step_spread_crd rfl (.tmp 37) (.tmp 39) rfl lo g3 k c3 _ _ rfl (hC3.keeps (Keeps.alloc _ _)) w3.heap.size 0 1 1 rfl [x] rfl (HXV.out _ _ (hpA w3)) (HXW.out _ ((HK.out.step hK3).step (Keeps.alloc _ _))) (by omega) (Nat.le_trans (Nat.le_trans hlo2 hK3.size) (Keeps.alloc w3 _).size) ?_; intro g4 c4 w4 hC4 hg4 hor4; have hK4 := (hK3.step (Keeps.alloc w3 _)).grownAt hg4 hg3w; have hg4w : wr.heap.size ≤ g4 := (by have h1 := (hK3.step (Keeps.alloc w3 (.cells #[.slice (some ⟨xg, 0, none⟩) n xc] 45))).size; rcases hor4 with e | e <;> omega)) | (refine step_spread_crd rfl (.tmp 37) (.tmp 39) rfl lo g3 k c3 _ _ rfl hC3 _ 0 1 1 rfl [x] rfl (HXV.out _ _ hBx3) (HXW.out _ (HK.out.step hK3)) (by omega) (Nat.le_trans hlo2 hK3.size) ?_; intro g4 c4 w4 hC4 hg4 hor4; have hK4 := hK3.grownAt hg4 hg3w; have hg4w : wr.heap.size ≤ g4 := (by have h1 := hK3.size; rcases hor4 with e | e <;> omega)) | (refine step_spread_crd rfl (.tmp 33) (.tmp 36) rfl lo (wr.heap.size) 0 0 [] _ rfl (Crd.empty HBa.out (by omega)) g 0 k c rfl (R.take k) HTK.out (HZ1.out _ (HK.out.step KA.out)) (fun h hh => HRW.out _ (HK.out.step KA.out) h (List.mem_of_mem_take hh)) (by omega) (Nat.le_trans hlo2 (KA.out).size) ?_; intro g3 c3 w3 hC3 hg3 hor3; rw [Nat.zero_add, List.nil_append] at hC3; have hK3 := (KA.out).grownAt hg3 (by omega); have hg3w : wr.heap.size ≤ g3 := (by have h1 := (KA.out).size; rcases hor3 with e | e <;> omega); have hpA : ∀ W : World, Blk (W.alloc (.cells #[.slice (some ⟨xg, 0, none⟩) n xc] 45)) W.heap.size 45 #[.slice (some ⟨xg, 0, none⟩) n xc] := fun W => Blk.new W _ _) | (refine step_spread_crd rfl (.tmp 33) (.tmp 36) rfl lo (wr.heap.size) 0 0 [] _ rfl (Crd.empty HBb.out (by omega)) g 0 k c rfl (R.take k) HTK.out (HZ1.out _ (HK.out.step KB.out)) (fun h hh => HRW.out _ (HK.out.step KB.out) h (List.mem_of_mem_take hh)) (by omega) (Nat.le_trans hlo2 (KB.out).size) ?_; intro g3 c3 w3 hC3 hg3 hor3; rw [Nat.zero_add, List.nil_append] at hC3; have hK3 := (KB.out).grownAt hg3 (by omega); have hg3w : wr.heap.size ≤ g3 := (by have h1 := (KB.out).size; rcases hor3 with e | e <;> omega); have hBx3 := HBb2.out.grown hg3 (by simp)) | (refine step_spread_crd rfl (.tmp 33) (.tmp 36) rfl lo (wr.heap.size + 1) 0 0 [] _ rfl (Crd.empty HBc.out (by omega)) g 0 k c rfl (R.take k) HTK.out (HZ1.out _ (HK.out.step KC.out)) (fun h hh => HRW.out _ (HK.out.step KC.out) h (List.mem_of_mem_take hh)) (by omega) (Nat.le_trans hlo2 (KC.out).size) ?_; intro g3 c3 w3 hC3 hg3 hor3; rw [Nat.zero_add, List.nil_append] at hC3; have hK3 := (KC.out).grownAt hg3 (by omega); have hg3w : wr.heap.size ≤ g3 := (by have h1 := (KC.out).size; rcases hor3 with e | e <;> omega); have hBx3 := HBc2.out.grown hg3 (by simp)))
        all_goals
          have HK5 := Lib.hid (HK.out.step (hK4.grownAt hg5 hg4w))
          have HC5 := Lib.hid hC5
          have HGE : Hid (w.heap.size ≤ g5) := Lib.hid (by have h1 := hK4.size; rcases hor5 with e | e <;> omega)
          have HCC : Hid (k + 1 + 0 ≤ c5 ∧ c5 ≤ 9223372036854775807) := Lib.hid (by
            obtain ⟨_, _, _, h1, h2, _, _⟩ := hC5.top_blk
            unfold maxLen at h2
            omega)
          have HFE : Hid ((R.take k ++ [x] ++ R.drop k).map (·.l) = insL x.l (R.map (·.l))) := Lib.hid (by rw [HNE.out]; simp)
          have HFM : Hid (∀ h ∈ R.take k ++ [x] ++ R.drop k, h ∈ R ∨ h = x) := Lib.hid (fun h hh => by
            rcases List.mem_append.1 hh with e | e
            · rcases List.mem_append.1 e with e | e
              · exact .inl (List.mem_of_mem_take e)
              · exact .inr (List.mem_singleton.1 e)
            · exact .inl (List.mem_of_mem_drop e))
          go_wp2_with fail
          go_ret
          first | exact ⟨g5, k + 1 + 0, c5, rfl, _, HFE.out, HFM.out, HC5.out.crn, HCC.out, HK5.out, .inl HGE.out⟩ | exact ⟨g5, k + 1 + 0, c5, _, rfl, HFE.out, HFM.out, HC5.out.crn, HCC.out, HK5.out, .inl HGE.out⟩
end Go.Proofs.YtlniogfinofakaaGreatDoor
/-
  impl.nextOf: the crowds behind one meeting. Conditions: valid rules and a crowd.
-/
namespace Go.Proofs.YtlniogfinofakaaGreatDoor
set_option maxRecDepth 100000
set_option maxRecDepth 100000
set_option linter.unusedVariables false
open Go.RowKit

theorem il_list (l : List Int) (n : Nat) (h : l.length = n) : il n (fun i => l.getD i 0) = l := il_self l n h
/-- The list of crowds so far, the rules' box. -/
structure NSt (w : World) (bx : Nat) (cs : Array Value) (g m c : Nat) (R : List Hdr) (L : List (List Int)) (wr : World) : Prop where
  crd : Crd wr w.heap.size (some ⟨g, 0, none⟩) m c R
  cont : R.map (·.l) = L
  apart : (R.map (·.g)).Nodup
  box : Blk wr bx 54 cs
  keeps : Keeps w wr
theorem NSt.step {w : World} {bx : Nat} {cs : Array Value} {g m c : Nat} {R : List Hdr} {L : List (List Int)} {wr w' : World} (h : NSt w bx cs g m c R L wr) (k : Keeps wr w') : NSt w bx cs g m c R L w' :=
  ⟨h.crd.keeps k, h.cont, h.apart, h.box.keeps k, h.keeps.step k⟩
theorem own_blk {w : World} {lo g n c : Nat} {l : List Int} (h : OwnInts w lo (some ⟨g, 0, none⟩) n c l) : ∃ cur, Blk w g 3 cur := by
  rcases h.2 with ⟨e, _⟩ | ⟨g', cap, cur, e, _, hg, _⟩
  · cases e
  · cases e; exact ⟨cur, hg⟩
set_option maxRecDepth 100000 in
set_option maxHeartbeats 8000000 in
theorem nextOf_any (S A B C : Option Addr) (n cS cA cB cC : Nat) (s : Nat → Int) (rA rB : Nat → Option Addr × Nat × Nat) (F G : Nat → Nat → Nat) (l : List Int) (w : World) (hR : RulN w S n s A rA F B rB G) (hl : Crw n l) (hC : Ints w C n (fun i => l.getD i 0)) :
    Calls Tryz.prog 133 #[.agg #[.slice S n cS, .slice A n cA, .slice B n cB], .slice C n cC] w fun e w' => ∃ R g k, e = .returned (.slice (some ⟨g, 0, none⟩) k k) ∧ R.map (·.l) = nextL F G n l ∧ (R.map (·.g)).Nodup ∧ Crn w' w.heap.size (some ⟨g, 0, none⟩) k R ∧ Keeps w w' := by
  have hn1 := hR.n1
  have hn4 := hR.n4
  have HR := Lib.hid hR
  have HW := Lib.hid hl
  obtain ⟨dC, oC, rfl, _⟩ := hC 0 (by omega)
  have HC : Hid (∀ i, i < n → w.cell? ⟨dC, oC + i, none⟩ = some (.int .i64 (l.getD i 0))) := Lib.hid (fun i hi => by
    obtain ⟨_, _, e, hc⟩ := hC i hi
    cases e
    exact hc)
  have HCI := Lib.hid hC
  clear hR hl hC
  have HB0 : Hid (NSt w w.heap.size #[.slice S n cS, .slice A n cA, .slice B n cB] (w.heap.size + 1) 0 0 [] [] ((w.alloc (.cells #[.slice S n cS, .slice A n cA, .slice B n cB] 54)).alloc (.cells #[] 45))) := Lib.hid (by
    have h1 := Crd.made (w.alloc (.cells #[.slice S n cS, .slice A n cA, .slice B n cB] 54)) w.heap.size (Keeps.alloc w _).size
    rw [World.size_alloc] at h1
    exact ⟨h1, rfl, List.nodup_nil, (Blk.new w _ _).keeps (Keeps.alloc _ _), (Keeps.alloc w _).step (Keeps.alloc _ _)⟩)
  go_enter Tryz.func133, Tryz.ntmps133
  go_wp2_with fail
  go_loopw [12, 5] (fun i v wr => ∃ (a g m c : Nat) (R : List Hdr), a ≤ n ∧ i = .int .i64 a ∧ m ≤ 4 * a ∧ v = .slice (some ⟨g, 0, none⟩) m c ∧ Hid (NSt w w.heap.size #[.slice S n cS, .slice A n cA, .slice B n cB] g m c R (allM F G l n a) wr)) (fun i _ _ => n - (intOf i).toNat)
  case atStart => exact ⟨0, w.heap.size + 1, 0, 0, [], by omega, rfl, by omega, rfl, HB0⟩
  case round =>
    clear HB0
    obtain ⟨a, g, m, c, R, ha, rfl, hm, rfl, HS⟩ := hrel
    by_cases hlt : a < n
    · have hai : (a : Int) < n := by omega
      go_wp2_with fail
      go_loopw [17, 5] (fun i v wr => ∃ (b g m c : Nat) (R : List Hdr), b ≤ n ∧ i = .int .i64 b ∧ m ≤ 4 * a + b ∧ v = .slice (some ⟨g, 0, none⟩) m c ∧ Hid (NSt w w.heap.size #[.slice S n cS, .slice A n cA, .slice B n cB] g m c R (allM F G l n a ++ rowM F G l a b) wr)) (fun i _ _ => n - (intOf i).toNat)
      case atStart => exact ⟨0, g, m, c, R, by omega, rfl, by omega, rfl, Lib.hid (by rw [rowM, List.append_nil]; exact HS.out)⟩
      case round =>
        clear HS
        obtain ⟨b, g, m, c, R, hb, rfl, hm, rfl, HS⟩ := hrel
        by_cases hltb : b < n
        · have hbi : (b : Int) < n := by omega
          go_wp2_with fail
          refine (slClone_any dC oC n cC (fun i => l.getD i 0) wr hn1 (by omega) (fun i hi => cell_keeps HS.out.keeps (HC.out i hi))).mono ?_
          rintro e w2 ⟨g8, c8, rfl, hO2, hk2⟩
          have HO2 : Hid (OwnInts w2 wr.heap.size (some ⟨g8, 0, none⟩) n c8 l) := Lib.hid (by rw [il_list l n HW.out.len] at hO2; exact hO2)
          have HS2 := Lib.hid (HS.out.step hk2)
          have HK2 := Lib.hid hk2
          have hcl := own_clip hO2
          have hcl1 := hcl.1
          clear hO2 hk2 hcl
          go_wp2_with fail
          refine (slClip_any g8 n c8 w2 hcl1).mono ?_
          rintro e w3 ⟨rfl, rfl⟩
          have hla := HW.out.at a hlt
          have hlb := HW.out.at b hltb
          have HO3 := Lib.hid (HO2.out.set a (l.getD a 0 - 1))
          have HO4 : Hid (OwnInts ((w2.setCell ⟨g8, a, none⟩ (.int .i64 (l.getD a 0 - 1))).setCell ⟨g8, b, none⟩ (.int .i64 ((l.set a (l.getD a 0 - 1)).getD b 0 - 1))) wr.heap.size (some ⟨g8, 0, none⟩) n c8 (decL l a b)) := Lib.hid (HO3.out.set b _)
          have c1 := HO2.out.cell a hlt
          have f1 := HO2.out.frozen a
          have c2 := HO3.out.cell b hltb
          have f2 := HO3.out.frozen b
          have hbd : -1 ≤ (l.set a (l.getD a 0 - 1)).getD b 0 ∧ (l.set a (l.getD a 0 - 1)).getD b 0 ≤ 5 := by
            rw [getD_set _ _ _ _ (by rw [HW.out.len]; exact hlt)]
            split <;> omega
          obtain ⟨va, hva⟩ : ∃ va, va = l.getD a 0 := ⟨_, rfl⟩
          rw [← hva] at hla HO3 HO4 c1 c2 f2 hbd
          obtain ⟨vb, hvb⟩ : ∃ vb, vb = (l.set a (va - 1)).getD b 0 := ⟨_, rfl⟩
          rw [← hvb] at HO4 c2 hbd
          have hwa : wrap64 (va - 1) = va - 1 := by unfold wrap64; omega
          have hwb : wrap64 (vb - 1) = vb - 1 := by unfold wrap64; omega
          clear hva hvb
          have HS4 : Hid (NSt w w.heap.size #[.slice S n cS, .slice A n cA, .slice B n cB] g m c R (allM F G l n a ++ rowM F G l a b) ((w2.setCell ⟨g8, a, none⟩ (.int .i64 (va - 1))).setCell ⟨g8, b, none⟩ (.int .i64 (vb - 1)))) := Lib.hid (by
            have hg8 := HO2.out.block.1
            obtain ⟨cur8, hcur8⟩ := own_blk HO2.out
            refine ⟨⟨?_, fun h hh => ?_⟩, HS2.out.cont, HS2.out.apart, ?_, Below.setCell (Below.setCell HS2.out.keeps (show w.heap.size ≤ g8 by have := HS.out.keeps.size; omega) _) (show w.heap.size ≤ g8 by have := HS.out.keeps.size; omega) _⟩
            · exact own_kept (own_kept HS2.out.crd.top (grown_set _ _ _ _) (fun k hk e => by have := (own_block HS.out.crd.top k hk).2; simp at e; omega)) (grown_set _ _ _ _) (fun k hk e => by have := (own_block HS.out.crd.top k hk).2; simp at e; omega)
            · have hlt8 := (own_block (HS.out.crd.row h hh) h.g rfl).2
              exact own_block_same (HS2.out.crd.row h hh) (by rw [Below.heap_setCell _ _ _ _ (show h.g ≠ g8 by omega), Below.heap_setCell _ _ _ _ (show h.g ≠ g8 by omega)])
            · have hlt8 := HS.out.box.lt
              exact (HS2.out.box.set_other _ _ (by simp only; omega)).set_other _ _ (by simp only; omega))
          have HLO := Lib.hid HO2.out.block.1
          have HOK := Lib.hid (dec_pos HW.out hlt hltb)
          have HDL := Lib.hid (decL_len (c := l) (a := a) (b := b))
          have HWL := Lib.hid HW.out.len
          go_wp2_with fail
          clear c1 f1 c2 f2 HO3 HO2 HS2 HK2 hbd hla hlb hcl1
          generalize ((w2.setCell ⟨g8, a, none⟩ (.int .i64 (va - 1))).setCell ⟨g8, b, none⟩ (.int .i64 (vb - 1))) = w4 at *
          clear hwa hwb
          obtain ⟨n', hn'⟩ : ∃ n', n = n' + 1 := ⟨n - 1, by omega⟩
          have CM : Hid (Calls Tryz.prog 156 #[.slice (some ⟨g8, 0, none⟩) n n] w4 fun e w' => e = .returned (.int .i64 (lowF (fun i => (decL l a b).getD i 0) n')) ∧ w4 = w') := Lib.hid (by
            rw [hn']
            refine slMin_any _ n' _ _ w4 (by omega) ?_
            rw [← hn']
            exact HO4.out.ints)
          have HLP : Hid (0 ≤ lowF (fun i => (decL l a b).getD i 0) n' ↔ okB l a b = true) := Lib.hid (by
            rw [lowF_pos, HOK.out]
            exact ⟨fun h j hj => h j (by omega), fun h j hj => h j (by omega)⟩)
          clear hn'
          generalize lowF (fun i => (decL l a b).getD i 0) n' = lw at *
          refine CM.out.mono ?_
          rintro e w5 ⟨rfl, rfl⟩
          cases hok : okB l a b
          · have hlw : lw < 0 := by
              rcases Int.lt_or_le lw 0 with h | h
              · exact h
              · have := HLP.out.1 h
                rw [hok] at this
                cases this
            have HNX : Hid (rowM F G l a (b + 1) = rowM F G l a b) := Lib.hid (by
              have : meetsB F G l a b = false := by unfold meetsB; rw [hok]; rfl
              rw [rowM, this]
              simp)
            clear hok HLP CM
            go_wp2_with fail
            go_roundw
            case rel => exact ⟨b + 1, g, m, c, R, by omega, by go_num, by omega, rfl, Lib.hid (by rw [HNX.out]; exact HS4.out)⟩
            case measure => simp [intOf]; omega
          · have hlw : ¬ lw < 0 := by have := HLP.out.2 hok; omega
            have HOK2 := Lib.hid hok
            have HME : Hid (meetsB F G l a b = !decide (meetL F G l a b = l)) := Lib.hid (by unfold meetsB; rw [hok]; rfl)
            have HML : Hid ((meetL F G l a b).length = n) := Lib.hid (by rw [meetL_len, HWL.out])
            obtain ⟨hFn, hGn⟩ := HR.out.rul a b hlt hltb
            obtain ⟨⟨dA, oA, eA, hcA⟩, hIA⟩ := HR.out.first a hlt
            obtain ⟨⟨dB, oB, eB, hcB⟩, hIB⟩ := HR.out.second a hlt
            rw [HR.out.lA a hlt] at hcA hIA
            rw [HR.out.lB a hlt] at hcB hIB
            obtain ⟨dF, oF, eF, hcF⟩ := hIA b hltb
            obtain ⟨dG, oG, eG, hcG⟩ := hIB b hltb
            rw [eF] at hcA
            rw [eG] at hcB
            obtain ⟨xA, hxA⟩ : ∃ x, x = (rA a).2.2 := ⟨_, rfl⟩
            obtain ⟨xB, hxB⟩ : ∃ x, x = (rB a).2.2 := ⟨_, rfl⟩
            rw [← hxA] at hcA
            rw [← hxB] at hcB
            have b0 : w4.cell? ⟨w.heap.size, 1, none⟩ = some (.slice A n cA) := HS4.out.box.cell 1
            have b1 : w4.cell? ⟨w.heap.size, 2, none⟩ = some (.slice B n cB) := HS4.out.box.cell 2
            subst eA
            subst eB
            clear hIA hIB eF eG hxA hxB hok HLP CM
            have HO5 := Lib.hid (HO4.out.set (F a b) ((decL l a b).getD (F a b) 0 + 1))
            have HO6 : Hid (OwnInts ((w4.setCell ⟨g8, F a b, none⟩ (.int .i64 ((decL l a b).getD (F a b) 0 + 1))).setCell ⟨g8, G a b, none⟩ (.int .i64 ((incL (decL l a b) (F a b)).getD (G a b) 0 + 1))) wr.heap.size (some ⟨g8, 0, none⟩) n c8 (meetL F G l a b)) := Lib.hid (HO5.out.set (G a b) _)
            have c1 := HO4.out.cell (F a b) hFn
            have f1 := HO4.out.frozen (F a b)
            have c2 : (w4.setCell ⟨g8, F a b, none⟩ (.int .i64 ((decL l a b).getD (F a b) 0 + 1))).cell? ⟨g8, G a b, none⟩ = some (.int .i64 ((incL (decL l a b) (F a b)).getD (G a b) 0)) := HO5.out.cell (G a b) hGn
            have f2 := HO5.out.frozen (G a b)
            have hFb : 0 ≤ (decL l a b).getD (F a b) 0 ∧ (decL l a b).getD (F a b) 0 ≤ 5 := by
              refine ⟨(dec_pos HW.out hlt hltb).1 HOK2.out _ hFn, ?_⟩
              have := HW.out.at (F a b) hFn
              rw [decL_at (by rw [HWL.out]; exact hlt) (by rw [HWL.out]; exact hltb)]
              split <;> split <;> omega
            have hGb : 0 ≤ (incL (decL l a b) (F a b)).getD (G a b) 0 ∧ (incL (decL l a b) (F a b)).getD (G a b) 0 ≤ 6 := by
              have h1 := (dec_pos HW.out hlt hltb).1 HOK2.out _ hGn
              have h2 := HW.out.at (G a b) hGn
              rw [incL_at (by rw [HDL.out, HWL.out]; exact hFn), decL_at (by rw [HWL.out]; exact hlt) (by rw [HWL.out]; exact hltb)]
              rw [decL_at (by rw [HWL.out]; exact hlt) (by rw [HWL.out]; exact hltb)] at h1
              split <;> split <;> split <;> omega
            have hg8 : w.heap.size < g8 := by have := HLO.out; have := HS.out.box.lt; omega
            have hdB : dB ≠ g8 := fun e => by have := World.block_lt_of_cell? w _ hcB; simp only at this; omega
            have hdG : dG ≠ g8 := fun e => by have := World.block_lt_of_cell? w _ hcG; simp only at this; omega
            have hbx : w.heap.size ≠ g8 := by omega
            replace hcA := cell_keeps HS4.out.keeps hcA
            replace hcB := cell_keeps HS4.out.keeps hcB
            replace hcF := cell_keeps HS4.out.keeps hcF
            replace hcG := cell_keeps HS4.out.keeps hcG
            obtain ⟨vF, hvF⟩ : ∃ v, v = (decL l a b).getD (F a b) 0 := ⟨_, rfl⟩
            obtain ⟨vG, hvG⟩ : ∃ v, v = (incL (decL l a b) (F a b)).getD (G a b) 0 := ⟨_, rfl⟩
            obtain ⟨pF, hpF⟩ : ∃ p, p = F a b := ⟨_, rfl⟩
            obtain ⟨pG, hpG⟩ : ∃ p, p = G a b := ⟨_, rfl⟩
            dsimp only at hcF hcG
            rw [← hvF, ← hpF] at c1 HO5
            rw [← hvF, ← hvG, ← hpF, ← hpG] at c2
            rw [← hvF, ← hvG, ← hpF, ← hpG] at HO6
            rw [← hpF] at hcF f1 hFn
            rw [← hpG] at hcG hGn
            rw [← hvF, ← hpF, ← hpG] at f2
            rw [← hvF] at hFb
            rw [← hvG] at hGb
            have hwF : wrap64 (vF + 1) = vF + 1 := by unfold wrap64; omega
            have hwG : wrap64 (vG + 1) = vG + 1 := by unfold wrap64; omega
            have hpFi : (pF : Int) < n := by omega
            have hpGi : (pG : Int) < n := by omega
            clear hvF hvG hpF hpG
            go_wp2_with fail
            have hc0n : 1 ≤ n := by omega
            have HS6 : Hid (NSt w w.heap.size #[.slice S n cS, .slice (some ⟨dA, oA, none⟩) n cA, .slice (some ⟨dB, oB, none⟩) n cB] g m c R (allM F G l n a ++ rowM F G l a b) ((w4.setCell ⟨g8, pF, none⟩ (.int .i64 (vF + 1))).setCell ⟨g8, pG, none⟩ (.int .i64 (vG + 1)))) := Lib.hid (by
              have hh4 := HO4.out.block.1
              refine ⟨⟨?_, fun h hh => ?_⟩, HS4.out.cont, HS4.out.apart, ?_, Below.setCell (Below.setCell HS4.out.keeps (show w.heap.size ≤ g8 by omega) _) (show w.heap.size ≤ g8 by omega) _⟩
              · exact own_kept (own_kept HS4.out.crd.top (grown_set _ _ _ _) (fun k hk e => by have := (own_block HS.out.crd.top k hk).2; simp at e; omega)) (grown_set _ _ _ _) (fun k hk e => by have := (own_block HS.out.crd.top k hk).2; simp at e; omega)
              · have hlt8 := (own_block (HS.out.crd.row h hh) h.g rfl).2
                exact own_block_same (HS4.out.crd.row h hh) (by rw [Below.heap_setCell _ _ _ _ (show h.g ≠ g8 by omega), Below.heap_setCell _ _ _ _ (show h.g ≠ g8 by omega)])
              · have hlt8 := HS.out.box.lt
                exact (HS4.out.box.set_other _ _ (by simp only; omega)).set_other _ _ (by simp only; omega))
            have hlo8 := HLO.out
            clear c1 f1 c2 f2 HO5 HO4 HS4 hcA hcB hcF hcG b0 b1
            generalize ((w4.setCell ⟨g8, pF, none⟩ (.int .i64 (vF + 1))).setCell ⟨g8, pG, none⟩ (.int .i64 (vG + 1))) = w6 at *
            have CE : Hid (Calls Tryz.prog 135 #[.slice (some ⟨g8, 0, none⟩) n n, .slice (some ⟨dC, oC, none⟩) n cC] w6 fun e w' => e = .returned (.bool (decide (meetL F G l a b = l))) ∧ ∃ q, w' = w6.drewN q) := Lib.hid (by
              have h := slEqualQ_any (some ⟨g8, 0, none⟩) (some ⟨dC, oC, none⟩) n cC (meetL F G l a b) l w6 (by rw [HML.out]; omega) (by rw [HWL.out]; omega) (by rw [HML.out]; exact HO6.out.ints) (by rw [HWL.out]; exact HCI.out.keeps HS6.out.keeps)
              rwa [HML.out, HWL.out] at h)
            have HDW : Hid (∀ q, Keeps w6 (w6.drewN q)) := Lib.hid (fun q => Keeps.drewN w6 q)
            cases hme : decide (meetL F G l a b = l)
            · rw [hme] at HME CE
              have HNX : Hid (rowM F G l a (b + 1) = rowM F G l a b ++ [meetL F G l a b]) := Lib.hid (by rw [rowM, HME.out]; rfl)
              refine CE.out.mono ?_
              rintro e w7 ⟨rfl, q, rfl⟩
              have HO7 := Lib.hid (HO6.out.keeps (HDW.out q))
              have HS7 := Lib.hid (HS6.out.step (HDW.out q))
              have HSZ : Hid (w.heap.size ≤ (w6.drewN q).heap.size) := Lib.hid HS7.out.keeps.size
              have HNEW : Hid (∀ h ∈ R, h.g ≠ g8) := Lib.hid (fun h hh => by have := (own_block (HS.out.crd.row h hh) h.g rfl).2; omega)
              clear CE HDW hme HO6 HS6
              generalize w6.drewN q = w7 at *
              go_wp2_with (first | (at_builtin; refine wp_app_crd rfl _ _ rfl w.heap.size (some ⟨g, 0, none⟩) m c R w7 rfl HS7.out.crd ⟨g8, n, c8, meetL F G l a b⟩ (by rw [HML.out]; exact HO7.out.mono HS.out.keeps.size) _ (by unfold Hdr.v; rw [HML.out]) rfl (by omega) HSZ.out ?_; intro g9 c9 w9 hC9 hg9))
              have HS9 : Hid (NSt w w.heap.size #[.slice S n cS, .slice (some ⟨dA, oA, none⟩) n cA, .slice (some ⟨dB, oB, none⟩) n cB] g9 (m + 1) c9 (R ++ [⟨g8, n, c8, meetL F G l a b⟩]) (allM F G l n a ++ rowM F G l a (b + 1)) w9) := Lib.hid ⟨hC9, by rw [List.map_append, HS7.out.cont, HNX.out, ← List.append_assoc]; rfl, by
                rw [List.map_append, List.nodup_append]
                refine ⟨HS7.out.apart, by simp, fun x hx y hy => ?_⟩
                simp only [List.map_cons, List.map_nil, List.mem_singleton] at hy
                subst hy
                obtain ⟨h, hh, rfl⟩ := List.mem_map.1 hx
                exact HNEW.out h hh, HS7.out.box.grown hg9 (own_other' HS7.out.crd.top HS7.out.box (by decide)), HS7.out.keeps.grown HS7.out.crd.top (Nat.le_refl _) hg9⟩
              clear hC9 hg9
              go_roundw
              case rel => exact ⟨b + 1, g9, m + 1, c9, _, by omega, by go_num, by omega, rfl, HS9⟩
              case measure => simp [intOf]; omega
            · rw [hme] at HME CE
              have HNX : Hid (rowM F G l a (b + 1) = rowM F G l a b) := Lib.hid (by rw [rowM, HME.out]; simp)
              refine CE.out.mono ?_
              rintro e w7 ⟨rfl, q, rfl⟩
              have HS7 := Lib.hid (HS6.out.step (HDW.out q))
              clear CE HDW hme HO6 HS6
              go_wp2_with fail
              go_roundw
              case rel => exact ⟨b + 1, g, m, c, R, by omega, by go_num, by omega, rfl, Lib.hid (by rw [HNX.out]; exact HS7.out)⟩
              case measure => simp [intOf]; omega
        · obtain rfl : b = n := by omega
          go_wp2_with fail
          go_roundw
          case rel => exact ⟨a + 1, g, m, c, R, by omega, by go_num, by omega, rfl, Lib.hid (by rw [allM]; exact HS.out)⟩
          case measure => simp [intOf]; omega
    · obtain rfl : a = n := by omega
      have HLN : Hid (∀ h ∈ R, h.l.length ≤ 1000) := Lib.hid (fun h hh => by
        have h1 : h.l ∈ allM F G l a a := by rw [← HS.out.cont]; exact List.mem_map_of_mem hh
        obtain ⟨p, q, _, _, _, e⟩ := mem_allM.1 h1
        rw [e, meetL_len, HW.out.len]
        omega)
      go_wp2_with fail
      refine (sorted_any g m c w.heap.size R wr w HS.out.crd (by omega) HLN.out HS.out.keeps (Nat.le_refl _) HS.out.apart).mono ?_
      rintro e w2 ⟨R2, k, rfl, hc2, hn2, hm2, hR2, hk2⟩
      have HC2 := Lib.hid hc2
      have HN2 := Lib.hid hn2
      have HR2 := Lib.hid hR2
      have HK2 := Lib.hid hk2
      clear hc2 hn2 hm2 hR2 hk2
      go_wp2_with fail
      go_ret
      exact ⟨R2, g, k, rfl, by rw [HC2.out, HS.out.cont]; rfl, HN2.out, HR2.out, HK2.out⟩
end Go.Proofs.YtlniogfinofakaaGreatDoor
/-
  impl.reachedOf: a crowd and all that may come of it. Conditions: valid rules and a crowd.
-/
namespace Go.Proofs.YtlniogfinofakaaGreatDoor
set_option maxRecDepth 100000
set_option maxRecDepth 100000
set_option linter.unusedVariables false
open Go.RowKit

def hdrR (R : List Hdr) (i : Nat) : Option Addr × Nat × Nat := (some ⟨(R.getD i default).g, 0, none⟩, (R.getD i default).l.length, (R.getD i default).c)
def numR (R : List Hdr) (i j : Nat) : Int := (R.getD i default).l.getD j 0
theorem Crn.rows {w : World} {lo g m : Nat} {R : List Hdr} (h : Crn w lo (some ⟨g, 0, none⟩) m R) : Rows w (some ⟨g, 0, none⟩) m (hdrR R) (numR R) := fun i hi =>
  ⟨⟨g, 0, rfl, by rw [Nat.zero_add]; exact h.cell i hi⟩, (h.rowD i hi).ints⟩
theorem getD_mem {R : List Hdr} {i : Nat} (h : i < R.length) : R.getD i default ∈ R := by
  rw [List.getD_eq_getElem?_getD, List.getElem?_eq_getElem h]
  exact List.getElem_mem h
theorem getD_app {R : List Hdr} {i : Nat} (h : i < R.length) (E : List Hdr) : (R ++ E).getD i default = R.getD i default := by
  rw [List.getD_eq_getElem?_getD, List.getD_eq_getElem?_getD, List.getElem?_append_left h]
theorem getD_map {R : List Hdr} {i : Nat} (h : i < R.length) : (R.getD i default).l ∈ R.map (·.l) := List.mem_map_of_mem (getD_mem h)
theorem mem_getD' {R : List Hdr} {z : Hdr} (h : z ∈ R) : ∃ i, i < R.length ∧ z = R.getD i default := by
  obtain ⟨i, hi, e⟩ := List.getElem_of_mem h
  exact ⟨i, hi, by rw [List.getD_eq_getElem?_getD, List.getElem?_eq_getElem hi]; exact e.symm⟩
theorem mem_mapD {R : List Hdr} {y : List Int} (h : y ∈ R.map (·.l)) : ∃ i, i < R.length ∧ y = (R.getD i default).l := by
  obtain ⟨z, hz, rfl⟩ := List.mem_map.1 h
  obtain ⟨i, hi, e⟩ := mem_getD' hz
  exact ⟨i, hi, by rw [← e]⟩
theorem any_lists (R : List Hdr) (y : List Int) : anyB (fun i => decide ((R.getD i default).l = y)) R.length = decide (y ∈ R.map (·.l)) := by
  by_cases h : y ∈ R.map (·.l)
  · rw [decide_eq_true h, anyB_iff]
    obtain ⟨i, hi, e⟩ := mem_mapD h
    exact ⟨i, hi, decide_eq_true e.symm⟩
  · rw [decide_eq_false h, anyB_false]
    intro i hi
    refine decide_eq_false (fun e => h ?_)
    rw [← e]
    exact getD_map hi
/-- Two blocks of lists with different first heads are different. -/
theorem blk_apart {w : World} {g g2 : Nat} {cur cur2 : Array Value} {R R2 : List Hdr} {m k : Nat} (h : Blk w g 45 cur) (h2 : Blk w g2 45 cur2) (e : cur.toList.take m = R.map Hdr.v) (e2 : cur2.toList.take k = R2.map Hdr.v) (hm : 1 ≤ R.length) (hk : 1 ≤ R2.length) (hne : (R.getD 0 default).g ≠ (R2.getD 0 default).g) : g ≠ g2 := by
  intro hg
  subst hg
  unfold Blk at h h2
  rw [h] at h2
  cases h2
  match R, R2, hm, hk with
  | x :: R, y :: R2, _, _ =>
    have h3 : (cur.toList.take m).head? = (cur.toList.take k).head? := by
      cases hc : cur.toList with
      | nil => simp
      | cons z t =>
        rw [hc] at e e2
        cases m with
        | zero => simp at e
        | succ m => cases k with
          | zero => simp at e2
          | succ k => rfl
    rw [e, e2] at h3
    simp only [List.map_cons, List.head?_cons, Option.some.injEq] at h3
    unfold Hdr.v at h3
    injection h3 with h3
    injection h3 with h3
    injection h3 with h3
    exact hne h3
/-- What is reached so far; of those ahead of i all nexts are there. -/
structure QSt (F G : Nat → Nat → Nat) (l : List Int) (w : World) (bx n : Nat) (cs : Array Value) (g m c i : Nat) (R : List Hdr) (wr : World) : Prop where
  crd : Crd wr w.heap.size (some ⟨g, 0, none⟩) m c R
  apart : (R.map (·.g)).Nodup
  nod : (R.map (·.l)).Nodup
  mem : l ∈ R.map (·.l)
  rch : ∀ x ∈ R.map (·.l), Rch F G n l x
  done : ∀ p, p < i → ∀ y ∈ nextL F G n ((R.getD p default).l), y ∈ R.map (·.l)
  box : Blk wr bx 54 cs
  keeps : Keeps w wr
section
variable {F G : Nat → Nat → Nat} {l : List Int} {w wr w' : World} {bx n g m c i : Nat} {cs : Array Value} {R : List Hdr}
theorem QSt.step (h : QSt F G l w bx n cs g m c i R wr) (k : Keeps wr w') : QSt F G l w bx n cs g m c i R w' :=
  ⟨h.crd.keeps k, h.apart, h.nod, h.mem, h.rch, h.done, h.box.keeps k, h.keeps.step k⟩
theorem QSt.crw (h : QSt F G l w bx n cs g m c i R wr) (hR : Rul n F G) (hl : Crw n l) : ∀ x ∈ R.map (·.l), Crw n x := fun x hx => ((h.rch x hx).crw hR hl).1
theorem QSt.le (h : QSt F G l w bx n cs g m c i R wr) (hR : Rul n F G) (hl : Crw n l) (hn : n ≤ 4) : m ≤ 1296 := by
  have h1 := crowds_le hn h.nod (h.crw hR hl)
  rw [List.length_map, h.crd.len] at h1
  exact h1
/-- The nexts R2 of the i-th one X, of which those ahead of j are there. -/
structure ISt (lo4 g2 k2 j i m : Nat) (X : List Int) (R2 : List Hdr) (g : Nat) (R : List Hdr) (wr : World) : Prop where
  crn : Crn wr lo4 (some ⟨g2, 0, none⟩) k2 R2
  hd : (R.getD 0 default).g < lo4
  at' : (R.getD i default).l = X
  lt : i < m
  nin : ∀ q, q < j → (R2.getD q default).l ∈ R.map (·.l)
  blk : ∀ z ∈ R, z.g < lo4 ∨ ∃ q, q < j ∧ z.g = (R2.getD q default).g
variable {lo4 g2 k2 j : Nat} {X : List Int} {R2 : List Hdr}
theorem ISt.step (h : ISt lo4 g2 k2 j i m X R2 g R wr) (k : Keeps wr w') : ISt lo4 g2 k2 j i m X R2 g R w' :=
  ⟨h.crn.keeps k, h.hd, h.at', h.lt, h.nin, h.blk⟩
theorem ISt.skip (h : ISt lo4 g2 k2 j i m X R2 g R wr) (hy : (R2.getD j default).l ∈ R.map (·.l)) : ISt lo4 g2 k2 (j + 1) i m X R2 g R wr :=
  ⟨h.crn, h.hd, h.at', h.lt, fun q hq => by
    by_cases e : q = j
    · subst e; exact hy
    · exact h.nin q (by omega), fun z hz => by
    rcases h.blk z hz with e | ⟨q, h1, h2⟩
    · exact .inl e
    · exact .inr ⟨q, by omega, h2⟩⟩
/-- One more is appended. -/
theorem step_both (hQ : QSt F G l w bx n cs g m c i R wr) (hI : ISt lo4 g2 k2 j i m X R2 g R wr) (hj : j < k2) (hn2 : (R2.map (·.g)).Nodup) (hlo : w.heap.size ≤ lo4) (hnew : (R2.getD j default).l ∉ R.map (·.l)) (hrch : Rch F G n l (R2.getD j default).l)
    {g' c' : Nat} {w' : World} (hC : Crd w' w.heap.size (some ⟨g', 0, none⟩) (m + 1) c' (R ++ [R2.getD j default])) (hg : wr.grownBy w' (some g)) :
    QSt F G l w bx n cs g' (m + 1) c' i (R ++ [R2.getD j default]) w' ∧ ISt lo4 g2 k2 (j + 1) i (m + 1) X R2 g' (R ++ [R2.getD j default]) w' := by
  have hlen := hQ.crd.len
  have hlen2 := hI.crn.len
  have hm1 : 1 ≤ m := by have := hI.lt; omega
  have h0 : (R2.getD 0 default).g ≥ lo4 := (own_block (hI.crn.rowD 0 (by omega)) (R2.getD 0 default).g rfl).1
  have hne : g ≠ g2 := by
    obtain ⟨cur, h1, _, _, _, _, h2⟩ := hQ.crd.top_blk
    rcases hI.crn.top with h | ⟨g3, cur2, e, _, h3, h4⟩
    · omega
    · cases e
      exact blk_apart h1 h3 h2 h4 (by omega) (by omega) (by have := hI.hd; omega)
  have hkr : ∀ z : Hdr, OwnInts wr lo4 (some ⟨z.g, 0, none⟩) z.l.length z.d z.l → OwnInts w' lo4 (some ⟨z.g, 0, none⟩) z.l.length z.d z.l := fun z hz => own_kept hz hg (fun b hb e => own_type hz hQ.crd.top (by decide) b hb (by simpa using e))
  refine ⟨⟨hC, ?_, ?_, ?_, ?_, ?_, ?_, ?_⟩, ⟨⟨hlen2, ?_, fun z hz => hkr z (hI.crn.row z hz)⟩, ?_, ?_, by have := hI.lt; omega, ?_, ?_⟩⟩
  · rw [List.map_append, List.nodup_append]
    refine ⟨hQ.apart, by simp, fun x hx y hy => ?_⟩
    simp only [List.map_cons, List.map_nil, List.mem_singleton] at hy
    subst hy
    obtain ⟨z, hz, rfl⟩ := List.mem_map.1 hx
    have hge := (own_block (hI.crn.rowD j hj) (R2.getD j default).g rfl).1
    rcases hI.blk z hz with e | ⟨q, h1, h2⟩
    · omega
    · rw [h2]
      intro e
      have h5 : (R2.map (·.g))[q]? = (R2.map (·.g))[j]? := by
        rw [List.getElem?_map, List.getElem?_map, List.getElem?_eq_getElem (by omega), List.getElem?_eq_getElem (by omega)]
        rw [List.getD_eq_getElem?_getD, List.getD_eq_getElem?_getD, List.getElem?_eq_getElem (by omega), List.getElem?_eq_getElem (by omega)] at e
        simpa using e
      have := (List.getElem?_inj (by rw [List.length_map]; omega) hn2).1 h5
      omega
  · rw [List.map_append, List.nodup_append]
    refine ⟨hQ.nod, by simp, fun x hx y hy => ?_⟩
    simp only [List.map_cons, List.map_nil, List.mem_singleton] at hy
    subst hy
    intro e
    subst e
    exact hnew hx
  · rw [List.map_append]; exact List.mem_append_left _ hQ.mem
  · intro x hx
    rw [List.map_append] at hx
    rcases List.mem_append.1 hx with h | h
    · exact hQ.rch x h
    · simp only [List.map_cons, List.map_nil, List.mem_singleton] at h
      subst h
      exact hrch
  · intro p hp y hy
    have := hI.lt
    rw [getD_app (by omega)] at hy
    rw [List.map_append]
    exact List.mem_append_left _ (hQ.done p hp y hy)
  · exact hQ.box.grown hg (own_other' hQ.crd.top hQ.box (by decide))
  · exact hQ.keeps.grown hQ.crd.top (Nat.le_refl _) hg
  · rcases hI.crn.top with h | ⟨g3, cur2, e, h1, h3, h4⟩
    · exact .inl h
    · cases e
      exact .inr ⟨g2, cur2, rfl, h1, h3.grown hg (by simp; omega), h4⟩
  · rw [getD_app (by omega)]; exact hI.hd
  · have := hI.lt
    rw [getD_app (by omega)]; exact hI.at'
  · intro q hq
    rw [List.map_append]
    by_cases e : q = j
    · subst e; exact List.mem_append_right _ (by simp)
    · exact List.mem_append_left _ (hI.nin q (by omega))
  · intro z hz
    rcases List.mem_append.1 hz with h | h
    · rcases hI.blk z h with e | ⟨q, h1, h2⟩
      · exact .inl e
      · exact .inr ⟨q, by omega, h2⟩
    · rw [List.mem_singleton] at h
      subst h
      exact .inr ⟨j, by omega, rfl⟩
end
theorem rch1_any (b : Nat) (A B : Option Addr) (c d : Nat) (x y : List Int) (w : World) (hx1 : x.length ≤ 1000) (hy1 : y.length ≤ 1000) (hx : Ints w A x.length (fun i => x.getD i 0)) (hy : Ints w B y.length (fun i => y.getD i 0)) (hc : w.cell? ⟨b, 0, none⟩ = some (.slice B y.length d)) :
    Calls Tryz.prog 134 #[.slice A x.length c, .pointer (some ⟨b, 0, none⟩)] w fun e w' => e = .returned (.bool (decide (x = y))) ∧ Keeps w w' := by
  have CE := Lib.hid (slEqualQ_any A B c d x y w (by omega) (by omega) hx hy)
  have HQ : Hid (∀ q, Keeps w (w.drewN q)) := Lib.hid (fun q => Keeps.drewN w q)
  clear hx hy
  generalize decide (x = y) = v at *
  go_enter Tryz.func134, Tryz.ntmps134
  go_wp2_with fail
  refine CE.out.mono ?_
  rintro e w1 ⟨rfl, q, rfl⟩
  go_wp2_with fail
  go_ret
  exact ⟨rfl, HQ.out q⟩
set_option maxRecDepth 100000 in
set_option maxHeartbeats 8000000 in
theorem reachedOf_any (S A B C : Option Addr) (n cS cA cB cC : Nat) (s : Nat → Int) (rA rB : Nat → Option Addr × Nat × Nat) (F G : Nat → Nat → Nat) (l : List Int) (w : World) (hR : RulN w S n s A rA F B rB G) (hl : Crw n l) (hC : Ints w C n (fun i => l.getD i 0)) :
    Calls Tryz.prog 101 #[.agg #[.slice S n cS, .slice A n cA, .slice B n cB], .slice C n cC] w fun e w' => ∃ R g k, e = .returned (.slice (some ⟨g, 0, none⟩) k k) ∧ R.map (·.l) = rchL F G n l ∧ (∀ x ∈ R.map (·.l), Rch F G n l x) ∧ (R.map (·.g)).Nodup ∧ Crn w' w.heap.size (some ⟨g, 0, none⟩) k R ∧ Keeps w w' := by
  have hmf : ∀ (fn : Fn) (first cap : Array Value) (w : World), (Instr.makeFunc fn first cap).run Tryz.prog w = .ok (.func fn first cap) w := fun _ _ _ _ => rfl
  have hn1 := hR.n1
  have hn4 := hR.n4
  have HR := Lib.hid hR
  have HW := Lib.hid hl
  have HWL := Lib.hid hl.len
  obtain ⟨dC, oC, rfl, _⟩ := hC 0 (by omega)
  have HC : Hid (∀ i, i < n → w.cell? ⟨dC, oC + i, none⟩ = some (.int .i64 (l.getD i 0))) := Lib.hid (fun i hi => by
    obtain ⟨_, _, e, hc⟩ := hC i hi
    cases e
    exact hc)
  clear hR hl hC
  have HB0 : Hid (Blk (w.alloc (.cells #[.slice S n cS, .slice A n cA, .slice B n cB] 54)) w.heap.size 54 #[.slice S n cS, .slice A n cA, .slice B n cB]) := Lib.hid (Blk.new w _ _)
  have HK0 : Hid (Keeps w (w.alloc (.cells #[.slice S n cS, .slice A n cA, .slice B n cB] 54))) := Lib.hid (Keeps.alloc w _)
  go_enter Tryz.func101, Tryz.ntmps101
  go_wp2_with fail
  generalize w.alloc (.cells #[.slice S n cS, .slice A n cA, .slice B n cB] 54) = w1 at *
  refine (slClone_any dC oC n cC (fun i => l.getD i 0) w1 hn1 (by omega) (fun i hi => cell_keeps HK0.out (HC.out i hi))).mono ?_
  rintro e w2 ⟨g8, c8, rfl, hO2, hk2⟩
  have HO2 : Hid (OwnInts w2 w1.heap.size (some ⟨g8, 0, none⟩) n c8 l) := Lib.hid (by rw [il_list l n HWL.out] at hO2; exact hO2)
  have HK2 := Lib.hid (HK0.out.step hk2)
  have HB2 := Lib.hid (HB0.out.keeps hk2)
  have hcl := own_clip hO2
  have hcl1 := hcl.1
  clear hO2 hk2 hcl HB0
  go_wp2_with fail
  refine (slClip_any g8 n c8 w2 hcl1).mono ?_
  rintro e w3 ⟨rfl, rfl⟩
  have HQ : Hid (QSt F G l w w.heap.size n #[.slice S n cS, .slice A n cA, .slice B n cB] w2.heap.size 1 1 0 [⟨g8, n, c8, l⟩] (w2.alloc (.cells #[.slice (some ⟨g8, 0, none⟩) n n] 45))) := Lib.hid (by
    have hs1 := HK0.out.size
    have hs2 := HK2.out.size
    refine ⟨⟨⟨rfl, .inr ⟨w2.heap.size, 1, #[.slice (some ⟨g8, 0, none⟩) n n], rfl, hs2, Blk.new w2 _ _, Nat.le_refl _, by unfold maxLen; omega, rfl, ?_⟩⟩, fun x hx => ?_⟩, by simp, by simp, by simp, fun x hx => ?_, fun p hp => absurd hp (Nat.not_lt_zero _), HB2.out.keeps (Keeps.alloc _ _), HK2.out.step (Keeps.alloc _ _)⟩
    · simp only [List.map_cons, List.map_nil]
      unfold Hdr.v
      rw [HWL.out]
      rfl
    · rw [List.mem_singleton] at hx
      subst hx
      have := (HO2.out.mono hs1).keeps (Keeps.alloc w2 (.cells #[.slice (some ⟨g8, 0, none⟩) n n] 45))
      rw [← HWL.out] at this
      rw [HWL.out] at this ⊢
      exact this
    · simp only [List.map_cons, List.map_nil, List.mem_singleton] at hx
      subst hx
      exact .refl)
  clear HO2 HK2 HB2 HK0 hcl1
  go_wp2_with fail
  go_loopw [6, 5] (fun i v wr => ∃ (j g m c : Nat) (R : List Hdr), j ≤ m ∧ i = .int .i64 j ∧ v = .slice (some ⟨g, 0, none⟩) m c ∧ Hid (QSt F G l w w.heap.size n #[.slice S n cS, .slice A n cA, .slice B n cB] g m c j R wr)) (fun i _ _ => 1297 - (intOf i).toNat)
  case atStart => exact ⟨0, w2.heap.size, 1, 1, _, by omega, rfl, rfl, HQ⟩
  case round =>
    clear HQ
    obtain ⟨i, g, m, c, R, hi, rfl, rfl, HQ⟩ := hrel
    have hm := HQ.out.le HR.out.rul HW.out hn4
    by_cases hlt : i < m
    · have hii : (i : Int) < m := by omega
      have HX : Hid (Crw n ((R.getD i default).l)) := Lib.hid (HQ.out.crw HR.out.rul HW.out _ (getD_map (by rw [HQ.out.crd.len]; exact hlt)))
      have HRX : Hid (Rch F G n l ((R.getD i default).l)) := Lib.hid (HQ.out.rch _ (getD_map (by rw [HQ.out.crd.len]; exact hlt)))
      have hcell := HQ.out.crd.cellD i hlt
      have HXI := Lib.hid (HQ.out.crd.rowD i hlt).ints
      have HX0 := Lib.hid (HQ.out.crd.rowD 0 (by omega))
      unfold Hdr.v at hcell
      rw [HX.out.len] at hcell HXI
      have HAT : Hid ((R.getD i default).l = (R.getD i default).l) := Lib.hid rfl
      obtain ⟨xg, hxg⟩ : ∃ x, x = (R.getD i default).g := ⟨_, rfl⟩
      obtain ⟨xc, hxc⟩ : ∃ x, x = (R.getD i default).c := ⟨_, rfl⟩
      obtain ⟨X, hX⟩ : ∃ x, x = (R.getD i default).l := ⟨_, rfl⟩
      rw [← hxg, ← hxc] at hcell
      rw [← hxg] at HXI
      rw [← hX] at HX HRX HXI
      have HXE := Lib.hid hX
      clear hxg hxc hX HAT
      have CN : Hid (∀ W, Keeps wr W → Calls Tryz.prog 133 #[.agg #[.slice S n cS, .slice A n cA, .slice B n cB], .slice (some ⟨xg, 0, none⟩) n xc] W fun e w' => ∃ R g k, e = .returned (.slice (some ⟨g, 0, none⟩) k k) ∧ R.map (·.l) = nextL F G n X ∧ (R.map (·.g)).Nodup ∧ Crn w' W.heap.size (some ⟨g, 0, none⟩) k R ∧ Keeps W w') := Lib.hid (fun W hK => nextOf_any S A B (some ⟨xg, 0, none⟩) n cS cA cB xc s rA rB F G X W (HR.out.keeps (HQ.out.keeps.step hK)) HX.out (HXI.out.keeps hK))
      have b0 : wr.cell? ⟨w.heap.size, 0, none⟩ = some (.slice S n cS) := HQ.out.box.cell 0
      have b1 : wr.cell? ⟨w.heap.size, 1, none⟩ = some (.slice A n cA) := HQ.out.box.cell 1
      have b2 : wr.cell? ⟨w.heap.size, 2, none⟩ = some (.slice B n cB) := HQ.out.box.cell 2
      go_wp2_with fail
      go_region_law (first | (refine step_go 133 #[.tmp 19, .tmp 23] #[54, 45] rfl rfl (fun _ _ => rfl) (by simp [Act.eval]) (CN.out _ (Keeps.drew1 _)) ?_; rintro e w4 ⟨R2, g2, k2, rfl, hc2, hn2, hR2, hk2⟩; refine ⟨_, rfl, ?_⟩))
      all_goals
        have HC2 := Lib.hid hc2
        have HN2 := Lib.hid hn2
        have hk2l := hR2.len
        have HY2 : Hid (∀ j, j < k2 → (R2.getD j default).l ∈ nextL F G n X) := Lib.hid (fun j hj => by rw [← HC2.out]; exact getD_map (by omega))
        have hk2b : k2 ≤ 1296 := by
          have h1 := crowds_le (L := nextL F G n X) hn4 (sl_canL _).nodup (fun x hx => (next_crw HR.out.rul HX.out hx).1)
          rw [← HC2.out, List.length_map] at h1
          omega
        have HQ4 : Hid (QSt F G l w w.heap.size n #[.slice S n cS, .slice A n cA, .slice B n cB] g m c i R w4 ∧ ISt wr.heap.size g2 k2 0 i m X R2 g R w4) := Lib.hid ⟨HQ.out.step ((Keeps.drew1 _).step hk2), hR2, (own_block HX0.out (R.getD 0 default).g rfl).2, HXE.out.symm, hlt, fun q hq => absurd hq (Nat.not_lt_zero _), fun z hz => .inl (own_block (HQ.out.crd.row z hz) z.g rfl).2⟩
        have hlo4 := HQ.out.keeps.size
        obtain ⟨lo4, hlo4'⟩ : ∃ x, x = wr.heap.size := ⟨_, rfl⟩
        rw [← hlo4'] at HQ4 hlo4
        clear hc2 hn2 hR2 hk2 hk2l CN b0 b1 b2 HXI HX0 HXE hcell HQ hlo4'
        go_wp2_with fail
        simp only [Act.put, List.getElem_toArray, List.getElem_cons_succ, List.getElem_cons_zero, List.setIfInBounds_toArray, List.set_cons_succ, List.set_cons_zero]
        go_loopw [26, 5] (fun q v wr' => ∃ (j g m c : Nat) (R : List Hdr), j ≤ k2 ∧ q = .int .i64 j ∧ v = .slice (some ⟨g, 0, none⟩) m c ∧ Hid (QSt F G l w w.heap.size n #[.slice S n cS, .slice A n cA, .slice B n cB] g m c i R wr' ∧ ISt lo4 g2 k2 j i m X R2 g R wr')) (fun q _ _ => k2 - (intOf q).toNat)
        case atStart => exact ⟨0, g, m, c, R, by omega, rfl, rfl, HQ4⟩
        case round =>
          clear HQ4 hm hii hlt hi
          obtain ⟨j, g, m, c, R, hj, rfl, rfl, HQ⟩ := hrel
          have hm := HQ.out.1.le HR.out.rul HW.out hn4
          by_cases hltj : j < k2
          · have hji : (j : Int) < k2 := by omega
            have HYN := Lib.hid (HY2.out j hltj)
            have HYC := Lib.hid (next_crw HR.out.rul HX.out HYN.out).1
            have hcy := HQ.out.2.crn.cell j hltj
            have HYO := Lib.hid (HQ.out.2.crn.rowD j hltj)
            have HYL := Lib.hid HYC.out.len
            unfold Hdr.v at hcy
            rw [HYL.out] at hcy
            obtain ⟨y, hy⟩ : ∃ y, y = R2.getD j default := ⟨_, rfl⟩
            rw [← hy] at hcy HYO HYL HYC HYN
            have HYE := Lib.hid hy
            clear hy
            go_wp2_with fail
            have CC : Hid (Calls Tryz.prog 102 #[.slice (some ⟨g, 0, none⟩) m c, .func (.func 134) #[] #[.pointer (some ⟨wr.heap.size, 0, none⟩)]] (wr.alloc (.cells #[.slice (some ⟨y.g, 0, none⟩) n y.c] 45)) fun e w' => e = .returned (.bool (decide (y.l ∈ R.map (·.l)))) ∧ Keeps (wr.alloc (.cells #[.slice (some ⟨y.g, 0, none⟩) n y.c] 45)) w') := Lib.hid (by
              have h := rowcontains_any 134 #[.pointer (some ⟨wr.heap.size, 0, none⟩)] (some ⟨g, 0, none⟩) m c (hdrR R) (numR R) (fun i => decide ((R.getD i default).l = y.l)) (wr.alloc (.cells #[.slice (some ⟨y.g, 0, none⟩) n y.c] 45)) (by omega) ((HQ.out.1.crd.crn.keeps (Keeps.alloc _ _)).rows) (fun _ _ => rfl) (fun k w' hk hK => by
                have hlk := (HQ.out.1.crw HR.out.rul HW.out _ (getD_map (by rw [HQ.out.1.crd.len]; exact hk))).len
                exact rch1_any wr.heap.size _ (some ⟨y.g, 0, none⟩) _ y.c _ y.l w' (by omega) (by rw [HYL.out]; omega) ((HQ.out.1.crd.rowD k hk).keeps ((Keeps.alloc _ _).step hK)).ints (HYO.out.keeps ((Keeps.alloc _ _).step hK)).ints (cell_keeps hK (by rw [HYL.out, (Blk.new wr #[.slice (some ⟨y.g, 0, none⟩) n y.c] 45).cell 0]; rfl)))
              have e := any_lists R y.l
              rw [HQ.out.1.crd.len] at e
              rw [e] at h
              exact h)
            have HQ5 := Lib.hid (And.intro (HQ.out.1.step (Keeps.alloc wr (.cells #[.slice (some ⟨y.g, 0, none⟩) n y.c] 45))) (HQ.out.2.step (Keeps.alloc wr (.cells #[.slice (some ⟨y.g, 0, none⟩) n y.c] 45))))
            have HC5 : Hid ((wr.alloc (.cells #[.slice (some ⟨y.g, 0, none⟩) n y.c] 45)).cell? ⟨wr.heap.size, 0, none⟩ = some (.slice (some ⟨y.g, 0, none⟩) n y.c)) := Lib.hid (by rw [(Blk.new wr #[.slice (some ⟨y.g, 0, none⟩) n y.c] 45).cell 0]; rfl)
            clear hcy HQ HYO
            refine CC.out.mono ?_
            rintro e w6 ⟨rfl, hk6⟩
            have HQ6 := Lib.hid (And.intro (HQ5.out.1.step hk6) (HQ5.out.2.step hk6))
            have c6 := cell_keeps hk6 HC5.out
            clear CC HQ5 HC5 hk6
            generalize wr.heap.size = bq at *
            by_cases hin : y.l ∈ R.map (·.l)
            · rw [decide_eq_true hin]
              have HQ7 : Hid (QSt F G l w w.heap.size n #[.slice S n cS, .slice A n cA, .slice B n cB] g m c i R w6 ∧ ISt lo4 g2 k2 (j + 1) i m X R2 g R w6) := Lib.hid ⟨HQ6.out.1, HQ6.out.2.skip (by rw [← HYE.out]; exact hin)⟩
              clear hin HQ6 c6
              go_wp2_with fail
              go_roundw
              case rel => exact ⟨j + 1, g, m, c, R, by omega, by go_num, rfl, HQ7⟩
              case measure => simp [intOf]; omega
            · rw [decide_eq_false hin]
              have HIN := Lib.hid hin
              clear hin
              have HSZ : Hid (w.heap.size ≤ w6.heap.size) := Lib.hid HQ6.out.1.keeps.size
              have HY6 : Hid (OwnInts w6 w.heap.size (some ⟨y.g, 0, none⟩) y.l.length y.d y.l) := Lib.hid (by
                have := (HQ6.out.2.crn.rowD j hltj).mono hlo4
                rw [← HYE.out] at this
                exact this)
              go_wp2_with (first | (at_builtin; refine wp_app_crd rfl _ _ rfl w.heap.size (some ⟨g, 0, none⟩) m c R w6 rfl HQ6.out.1.crd y HY6.out _ (by unfold Hdr.v; rw [HYL.out]) rfl (by omega) HSZ.out ?_; intro g9 c9 w9 hC9 hg9))
              have HQ9 := Lib.hid (step_both HQ6.out.1 HQ6.out.2 hltj HN2.out hlo4 (by rw [← HYE.out]; exact HIN.out) (by rw [← HYE.out]; exact HRX.out.step HYN.out) (by rw [← HYE.out]; exact hC9) hg9)
              clear hC9 hg9 HQ6 HY6 HIN c6
              go_roundw
              case rel => exact ⟨j + 1, g9, m + 1, c9, _, by omega, by go_num, rfl, HQ9⟩
              case measure => simp [intOf]; omega
          · obtain rfl : j = k2 := by omega
            have HQF : Hid (QSt F G l w w.heap.size n #[.slice S n cS, .slice A n cA, .slice B n cB] g m c (i + 1) R wr ∧ i < m) := Lib.hid ⟨⟨HQ.out.1.crd, HQ.out.1.apart, HQ.out.1.nod, HQ.out.1.mem, HQ.out.1.rch, fun p hp y hy => by
              by_cases e : p = i
              · subst e
                rw [HQ.out.2.at', ← HC2.out] at hy
                obtain ⟨q, hq, rfl⟩ := mem_mapD hy
                rw [HQ.out.2.crn.len] at hq
                exact HQ.out.2.nin q hq
              · exact HQ.out.1.done p (by omega) y hy, HQ.out.1.box, HQ.out.1.keeps⟩, HQ.out.2.lt⟩
            have him := HQF.out.2
            go_wp2_with fail
            go_roundw
            case rel => exact ⟨i + 1, g, m, c, R, by omega, by go_num, rfl, Lib.hid HQF.out.1⟩
            case measure => simp [intOf]; omega
    · obtain rfl : i = m := by omega
      have HLN : Hid (∀ h ∈ R, h.l.length ≤ 1000) := Lib.hid (fun h hh => by
        rw [(HQ.out.crw HR.out.rul HW.out _ (List.mem_map_of_mem hh)).len]
        omega)
      have HEQ : Hid (rchL F G n l = canL (R.map (·.l))) := Lib.hid (rchL_of HQ.out.mem HQ.out.rch (fun x hx y hy => by
        obtain ⟨p, hp, rfl⟩ := mem_mapD hx
        rw [HQ.out.crd.len] at hp
        exact HQ.out.done p hp y hy))
      have HRC := Lib.hid HQ.out.rch
      go_wp2_with fail
      refine (sorted_any g i c w.heap.size R wr w HQ.out.crd (by omega) HLN.out HQ.out.keeps (Nat.le_refl _) HQ.out.apart).mono ?_
      rintro e w2 ⟨R2, k, rfl, hc2, hn2, hm2, hR2, hk2⟩
      have HC2 := Lib.hid hc2
      have HN2 := Lib.hid hn2
      have HR2 := Lib.hid hR2
      have HK2 := Lib.hid hk2
      clear hc2 hn2 hm2 hR2 hk2
      go_wp2_with fail
      go_ret
      exact ⟨R2, g, k, rfl, by rw [HC2.out, HEQ.out], fun x hx => by
        rw [HC2.out, mem_canL] at hx
        exact HRC.out x hx, HN2.out, HR2.out, HK2.out⟩
end Go.Proofs.YtlniogfinofakaaGreatDoor
/-
  The program's rules that are being made: the box, the two tables so far. No condition.
-/
namespace Go.Proofs.YtlniogfinofakaaGreatDoor
set_option maxRecDepth 100000
set_option linter.unusedVariables false
set_option maxRecDepth 100000
open Go.RowKit

/-- The first k rows of a table. -/
def tabK (n : Nat) (F : Nat → Nat → Int) (k : Nat) : List (List Int) := (List.range k).map (fun a => il n (F a))
theorem tabK_succ (n : Nat) (F : Nat → Nat → Int) (k : Nat) : tabK n F (k + 1) = tabK n F k ++ [il n (F k)] := by unfold tabK; rw [List.range_succ, List.map_append]; rfl
theorem tabK_len {n k : Nat} {F : Nat → Nat → Int} {x : List Int} (h : x ∈ tabK n F k) : x.length = n := by
  unfold tabK at h
  obtain ⟨a, _, rfl⟩ := List.mem_map.1 h
  exact il_len _ _
theorem tabK_at {n k i : Nat} {F : Nat → Nat → Int} {R : List Hdr} (h : R.map (·.l) = tabK n F k) (hi : i < k) : (R.getD i default).l = il n (F i) := by
  have hl : R.length = k := by
    have h1 := congrArg List.length h
    simpa [tabK] using h1
  have h3 := congrArg (fun t : List (List Int) => t[i]?) h
  simp only [List.getElem?_map, List.getElem?_eq_getElem (show i < R.length by omega), tabK] at h3
  rw [List.getD_eq_getElem?_getD, List.getElem?_eq_getElem (by omega)]
  simpa [hi] using h3
/-- Rules that are being made, above the world w. -/
structure MSt (kA kB : Nat) (w : World) (A : Option Addr) (cA : Nat) (R1 : List Hdr) (B : Option Addr) (cB : Nat) (R2 : List Hdr) (cs : Array Value) (wr : World) : Prop where
  box : Blk wr w.heap.size 54 cs
  first : Crd wr w.heap.size A kA cA R1
  second : Crd wr w.heap.size B kB cB R2
  tne : ∀ d, A.map (·.block) = some d → B.map (·.block) ≠ some d
  keeps : Keeps w wr
section
variable {kA kB : Nat} {w : World} {A : Option Addr} {cA : Nat} {R1 : List Hdr} {B : Option Addr} {cB : Nat} {R2 : List Hdr} {cs : Array Value} {wr w' : World}
theorem crdTurn {lo m c : Nat} {A : Option Addr} {R : List Hdr} {row : Option Nat} (h : Crd wr lo A m c R) (hg : wr.grownBy w' row) (hA : ∀ d, row = some d → A.map (·.block) ≠ some d) (hR : ∀ d, row = some d → ∀ h ∈ R, h.g ≠ d) : Crd w' lo A m c R :=
  ⟨own_kept h.top hg (fun k hk e => hA k e hk), fun z hz => own_kept (h.row z hz) hg (fun k hk e => hR k e z hz (by simpa using hk))⟩
theorem keepsAbove {d : Nat} {row : Option Nat} (h : Keeps w wr) (hg : wr.grownBy w' row) (hd : ∀ d, row = some d → w.heap.size ≤ d) : Keeps w w' :=
  ⟨hg.os.trans h.os, hg.tape.trans h.tape, hg.output.trans h.output, Nat.le_trans h.size hg.size, fun i hi => (hg.block i (Nat.lt_of_lt_of_le hi h.size) (fun e => absurd (hd i e.symm) (by omega))).trans (h.block i hi)⟩
theorem MSt.lows (h : MSt kA kB w A cA R1 B cB R2 cs wr) : (∀ d, A.map (·.block) = some d → w.heap.size ≤ d ∧ d < wr.heap.size) ∧ (∀ d, B.map (·.block) = some d → w.heap.size ≤ d ∧ d < wr.heap.size) ∧ (∀ h ∈ R1 ++ R2, w.heap.size ≤ h.g ∧ h.g < wr.heap.size) ∧ w.heap.size < wr.heap.size :=
  ⟨own_block h.first.top, own_block h.second.top, fun z hz => by
    rcases List.mem_append.1 hz with e | e
    · exact own_block (h.first.row z e) z.g rfl
    · exact own_block (h.second.row z e) z.g rfl, h.box.lt⟩
/-- A block that is none of these turns. -/
theorem MSt.turn {row : Option Nat} (h : MSt kA kB w A cA R1 B cB R2 cs wr) (hg : wr.grownBy w' row) (hd : ∀ d, row = some d → w.heap.size ≤ d ∧ d ≠ w.heap.size ∧ A.map (·.block) ≠ some d ∧ B.map (·.block) ≠ some d ∧ ∀ h ∈ R1 ++ R2, h.g ≠ d) :
    MSt kA kB w A cA R1 B cB R2 cs w' :=
  ⟨h.box.grown hg (fun e => (hd _ e.symm).2.1 rfl), crdTurn h.first hg (fun d e => (hd d e).2.2.1) (fun d e z hz => (hd d e).2.2.2.2 z (List.mem_append_left _ hz)), crdTurn h.second hg (fun d e => (hd d e).2.2.2.1) (fun d e z hz => (hd d e).2.2.2.2 z (List.mem_append_right _ hz)), h.tne, keepsAbove (d := 0) h.keeps hg (fun d e => (hd d e).1)⟩
theorem MSt.step (h : MSt kA kB w A cA R1 B cB R2 cs wr) (k : Keeps wr w') : MSt kA kB w A cA R1 B cB R2 cs w' :=
  h.turn (row := none) ⟨k.os, k.tape, k.output, k.size, fun i hi _ => k.block i hi⟩ (fun d e => by cases e)
/-- A block above L turns, where all lie below L. -/
theorem MSt.above (h : MSt kA kB w A cA R1 B cB R2 cs wr) {L d : Nat} (hL : w.heap.size < L) (hb : (∀ d, A.map (·.block) = some d → d < L) ∧ (∀ d, B.map (·.block) = some d → d < L) ∧ ∀ h ∈ R1 ++ R2, h.g < L) (hg : wr.grownBy w' (some d)) (hd : L ≤ d) : MSt kA kB w A cA R1 B cB R2 cs w' := by
  obtain ⟨h2, h3, h4⟩ := hb
  refine h.turn hg (fun e he => ?_)
  obtain rfl : d = e := by simpa using he
  exact ⟨by omega, by omega, fun e => by have := h2 _ e; omega, fun e => by have := h3 _ e; omega, fun z hz => by have := h4 z hz; omega⟩
/-- One more row in the first table. -/
theorem MSt.row1 (h : MSt kA kB w A cA R1 B cB R2 cs wr) {g' c' : Nat} {x : Hdr} (hC : Crd w' w.heap.size (some ⟨g', 0, none⟩) (kA + 1) c' (R1 ++ [x])) (hg : wr.grownBy w' (A.map (·.block))) (hor : A.map (·.block) = some g' ∨ wr.heap.size ≤ g') : MSt (kA + 1) kB w (some ⟨g', 0, none⟩) c' (R1 ++ [x]) B cB R2 cs w' := by
  obtain ⟨h2, h3, h4, h5⟩ := h.lows
  refine ⟨h.box.grown hg (own_other' h.first.top h.box (by decide)), hC, crdTurn h.second hg (fun d e he => h.tne d e he) (fun d e z hz he => own_type (h.second.row z hz) h.first.top (by decide) z.g rfl (by rw [e, he])), fun d e he => ?_, keepsAbove (d := 0) h.keeps hg (fun d e => (h2 d e).1)⟩
  have e' : g' = d := by simpa using e
  rcases hor with hh | hh
  · exact h.tne g' hh (by rw [e']; exact he)
  · have := h3 d he; omega
/-- One more row in the second table. -/
theorem MSt.row2 (h : MSt kA kB w A cA R1 B cB R2 cs wr) {g' c' : Nat} {x : Hdr} (hC : Crd w' w.heap.size (some ⟨g', 0, none⟩) (kB + 1) c' (R2 ++ [x])) (hg : wr.grownBy w' (B.map (·.block))) (hor : B.map (·.block) = some g' ∨ wr.heap.size ≤ g') : MSt kA (kB + 1) w A cA R1 (some ⟨g', 0, none⟩) c' (R2 ++ [x]) cs w' := by
  obtain ⟨h2, h3, h4, h5⟩ := h.lows
  refine ⟨h.box.grown hg (own_other' h.second.top h.box (by decide)), crdTurn h.first hg (fun d e he => h.tne d he e) (fun d e z hz he => own_type (h.first.row z hz) h.second.top (by decide) z.g rfl (by rw [e, he])), hC, fun d e he => ?_, keepsAbove (d := 0) h.keeps hg (fun d e => (h3 d e).1)⟩
  have e' : g' = d := by simpa using he
  rcases hor with hh | hh
  · exact h.tne d e (by rw [hh, e'])
  · have := h2 d e; omega
/-- A store into the box. -/
theorem MSt.store (h : MSt kA kB w A cA R1 B cB R2 cs wr) (j : Nat) (v : Value) : MSt kA kB w A cA R1 B cB R2 (cs.setIfInBounds j v) (wr.setCell ⟨w.heap.size, j, none⟩ v) := by
  have hg := grown_set wr w.heap.size j v
  refine ⟨h.box.set j v, crdTurn h.first hg (fun d e he => ?_) (fun d e z hz he => ?_), crdTurn h.second hg (fun d e he => ?_) (fun d e z hz he => ?_), h.tne, keepsAbove (d := 0) h.keeps hg (fun d e => by have e2 : w.heap.size = d := (by simpa using e); omega)⟩
  · exact own_other' h.first.top h.box (by decide) (by rw [he, e])
  · exact own_other' (h.first.row z hz) h.box (by decide) (by rw [e, ← he]; rfl)
  · exact own_other' h.second.top h.box (by decide) (by rw [he, e])
  · exact own_other' (h.second.row z hz) h.box (by decide) (by rw [e, ← he]; rfl)
end
/-- A store below. -/
theorem Crd.low {w : World} {lo m c r : Nat} {A : Option Addr} {R : List Hdr} (h : Crd w lo A m c R) (hr : r < lo) (j : Nat) (v : Value) : Crd (w.setCell ⟨r, j, none⟩ v) lo A m c R :=
  crdTurn h (grown_set w r j v) (fun d e he => by have e2 : r = d := (by simpa using e); have := (own_block h.top d he).1; omega) (fun d e z hz he => by have e2 : r = d := (by simpa using e); have := (own_block (h.row z hz) z.g rfl).1; omega)
theorem rules_results {a : Act} {W : World} {b : Nat} {v0 v1 v2 : Value} (h2 : a.tmps[2]? = some (.pointer (some ⟨b, 0, none⟩))) (c0 : W.cell? ⟨b, 0, none⟩ = some v0) (c1 : W.cell? ⟨b, 1, none⟩ = some v1) (c2 : W.cell? ⟨b, 2, none⟩ = some v2) : (results Tryz.f99 a.tmps).run Tryz.prog W = .ok (.agg #[v0, v1, v2]) W := by
  simp [results, Tryz.results99, go_sem, c0, c1, c2, h2]
end Go.Proofs.YtlniogfinofakaaGreatDoor
/-
  The reference's nextOf. Conditions: valid rules and a crowd.
-/
namespace Go.Proofs.YtlniogfinofakaaGreatDoor
set_option maxRecDepth 100000
set_option maxRecDepth 100000
set_option linter.unusedVariables false
open Go.RowKit

theorem all_crw {n : Nat} {F G : Nat → Nat → Nat} {c x : List Int} {a b : Nat} (hR : Rul n F G) (h : Crw n c) (ha : a ≤ n) (hb : b ≤ n) (hx : x ∈ allM F G c n a ∨ (a < n ∧ x ∈ rowM F G c a b)) : Crw n x := by
  have key : ∀ p q, p < n → q < n → meetsB F G c p q = true → Crw n (meetL F G c p q) := fun p q hp hq hm => by
    unfold meetsB at hm
    simp only [Bool.and_eq_true] at hm
    exact (meet_crw h hp hq (hR p q hp hq).1 (hR p q hp hq).2 hm.1).1
  rcases hx with hx | ⟨h1, hx⟩
  · obtain ⟨p, q, hp, hq, hm, rfl⟩ := mem_allM.1 hx
    exact key p q (by omega) hq hm
  · obtain ⟨q, hq, hm, rfl⟩ := mem_rowM.1 hx
    exact key a q h1 (by omega) hm
/-- The list so far of the reference, the rules' box. -/
structure SSt (w : World) (bx n : Nat) (cs : Array Value) (g m c : Nat) (R : List Hdr) (L : List (List Int)) (wr : World) : Prop where
  crn : Crn wr w.heap.size (some ⟨g, 0, none⟩) m R
  cont : R.map (·.l) = canL L
  mc : m ≤ c
  c63 : c ≤ 9223372036854775807
  crw : ∀ x ∈ L, Crw n x
  box : Blk wr bx 54 cs
  keeps : Keeps w wr
section
variable {w wr w' : World} {bx n g m c : Nat} {cs : Array Value} {R : List Hdr} {L : List (List Int)}
theorem SSt.step (h : SSt w bx n cs g m c R L wr) (k : Keeps wr w') : SSt w bx n cs g m c R L w' :=
  ⟨h.crn.keeps k, h.cont, h.mc, h.c63, h.crw, h.box.keeps k, h.keeps.step k⟩
theorem SSt.lens (h : SSt w bx n cs g m c R L wr) : ∀ x ∈ R, x.l.length = n := fun x hx => by
  have h1 : x.l ∈ canL L := by rw [← h.cont]; exact List.mem_map_of_mem hx
  exact (h.crw _ ((mem_canL _ _).1 h1)).len
theorem SSt.le (h : SSt w bx n cs g m c R L wr) (hn : n ≤ 4) : m ≤ 1296 := by
  have h1 := crowds_le (L := canL L) hn (sl_canL L).nodup (fun x hx => h.crw x ((mem_canL _ _).1 hx))
  rw [← h.cont, List.length_map, h.crn.len] at h1
  exact h1
theorem Crn.other {lo lo' gg : Nat} (h : Crn w lo (some ⟨g, 0, none⟩) m R) {l : List Int} {d : Nat} (hO : OwnInts w lo' (some ⟨gg, 0, none⟩) d c l) (hne : ∀ x ∈ R, x.g ≠ gg) (o : Nat) (v : Value) : Crn (w.setCell ⟨gg, o, none⟩ v) lo (some ⟨g, 0, none⟩) m R := by
  refine ⟨h.len, ?_, fun x hx => own_block_same (h.row x hx) (Below.heap_setCell _ _ _ _ (fun e => hne x hx e))⟩
  rcases h.top with h0 | ⟨g', cur, e, h1, h2, h3⟩
  · exact .inl h0
  · refine .inr ⟨g', cur, e, h1, h2.set_other _ _ (fun e2 => ?_), h3⟩
    simp only at e2
    subst e2
    exact own_other' hO h2 (by decide) rfl
end
theorem dec_facts {w2 : World} {lo g8 n c8 a b : Nat} {l : List Int} (hO : OwnInts w2 lo (some ⟨g8, 0, none⟩) n c8 l) (hW : Crw n l) (ha : a < n) (hb : b < n) :
    ∃ va vb : Int, w2.cell? ⟨g8, a, none⟩ = some (.int .i64 va) ∧ w2.frozen? ⟨g8, a, none⟩ = false ∧ (w2.setCell ⟨g8, a, none⟩ (.int .i64 (va - 1))).cell? ⟨g8, b, none⟩ = some (.int .i64 vb) ∧ (w2.setCell ⟨g8, a, none⟩ (.int .i64 (va - 1))).frozen? ⟨g8, b, none⟩ = false ∧ wrap64 (va - 1) = va - 1 ∧ wrap64 (vb - 1) = vb - 1 ∧
      Hid (OwnInts ((w2.setCell ⟨g8, a, none⟩ (.int .i64 (va - 1))).setCell ⟨g8, b, none⟩ (.int .i64 (vb - 1))) lo (some ⟨g8, 0, none⟩) n c8 (decL l a b)) := by
  have h1 := hW.at a ha
  have h2 := hW.at b hb
  have hO3 := hO.set a (l.getD a 0 - 1)
  refine ⟨l.getD a 0, (l.set a (l.getD a 0 - 1)).getD b 0, hO.cell a ha, hO.frozen a, hO3.cell b hb, hO3.frozen b, by unfold wrap64; omega, ?_, Lib.hid (hO3.set b _)⟩
  rw [getD_set _ _ _ _ (by rw [hW.len]; exact ha)]
  unfold wrap64
  split <;> omega
theorem SSt.other {w w' : World} {bx n g m c : Nat} {cs : Array Value} {R : List Hdr} {L : List (List Int)} (h : SSt w bx n cs g m c R L w') {lo' gg d c' : Nat} {l : List Int} (hO : OwnInts w' lo' (some ⟨gg, 0, none⟩) d c' l) (hlt : ∀ x ∈ R, x.g ≠ gg) (hbx : w.heap.size ≤ gg) (o : Nat) (v : Value) : SSt w bx n cs g m c R L (w'.setCell ⟨gg, o, none⟩ v) :=
  ⟨h.crn.other hO hlt o v, h.cont, h.mc, h.c63, h.crw, h.box.set_other _ _ (fun e => by simp only at e; subst e; exact own_other' hO h.box (by decide) rfl), Below.setCell h.keeps hbx _⟩
theorem inc_facts {w4 : World} {lo g8 n c8 a b : Nat} {l : List Int} {F G : Nat → Nat → Nat} (hO : OwnInts w4 lo (some ⟨g8, 0, none⟩) n c8 (decL l a b)) (hW : Crw n l) (hok : okB l a b = true) (ha : a < n) (hb : b < n) (hF : F a b < n) (hG : G a b < n) :
    ∃ vF vG : Int, w4.cell? ⟨g8, F a b, none⟩ = some (.int .i64 vF) ∧ w4.frozen? ⟨g8, F a b, none⟩ = false ∧ (w4.setCell ⟨g8, F a b, none⟩ (.int .i64 (vF + 1))).cell? ⟨g8, G a b, none⟩ = some (.int .i64 vG) ∧ (w4.setCell ⟨g8, F a b, none⟩ (.int .i64 (vF + 1))).frozen? ⟨g8, G a b, none⟩ = false ∧ wrap64 (vF + 1) = vF + 1 ∧ wrap64 (vG + 1) = vG + 1 ∧
      Hid (OwnInts (w4.setCell ⟨g8, F a b, none⟩ (.int .i64 (vF + 1))) lo (some ⟨g8, 0, none⟩) n c8 (incL (decL l a b) (F a b)) ∧ OwnInts ((w4.setCell ⟨g8, F a b, none⟩ (.int .i64 (vF + 1))).setCell ⟨g8, G a b, none⟩ (.int .i64 (vG + 1))) lo (some ⟨g8, 0, none⟩) n c8 (meetL F G l a b)) := by
  have hl := hW.len
  have hd := (dec_pos hW ha hb).1 hok
  have h1 := hW.at (F a b) hF
  have h2 := hW.at (G a b) hG
  have hO5 := hO.set (F a b) ((decL l a b).getD (F a b) 0 + 1)
  refine ⟨(decL l a b).getD (F a b) 0, (incL (decL l a b) (F a b)).getD (G a b) 0, hO.cell _ hF, hO.frozen _, hO5.cell _ hG, hO5.frozen _, ?_, ?_, Lib.hid ⟨hO5, hO5.set (G a b) _⟩⟩
  · have := hd _ hF
    rw [decL_at (by omega) (by omega)] at this ⊢
    unfold wrap64
    split <;> split <;> omega
  · have := hd _ hG
    rw [incL_at (by rw [decL_len]; omega)]
    rw [decL_at (by omega) (by omega)] at this ⊢
    unfold wrap64
    split <;> split <;> split <;> omega
set_option maxRecDepth 100000 in
set_option maxHeartbeats 8000000 in
theorem snextOf_any (S A B C : Option Addr) (n cS cA cB cC : Nat) (s : Nat → Int) (rA rB : Nat → Option Addr × Nat × Nat) (F G : Nat → Nat → Nat) (l : List Int) (w : World) (hR : RulN w S n s A rA F B rB G) (hl : Crw n l) (hC : Ints w C n (fun i => l.getD i 0)) :
    Calls Tryz.prog 79 #[.agg #[.slice S n cS, .slice A n cA, .slice B n cB], .slice C n cC] w fun e w' => ∃ R g m c, e = .returned (.slice (some ⟨g, 0, none⟩) m c) ∧ R.map (·.l) = nextL F G n l ∧ Crn w' w.heap.size (some ⟨g, 0, none⟩) m R ∧ (m ≤ c ∧ c ≤ 9223372036854775807) ∧ Keeps w w' := by
  have hn1 := hR.n1
  have hn4 := hR.n4
  have HR := Lib.hid hR
  have HW := Lib.hid hl
  obtain ⟨dC, oC, rfl, _⟩ := hC 0 (by omega)
  have HC : Hid (∀ i, i < n → w.cell? ⟨dC, oC + i, none⟩ = some (.int .i64 (l.getD i 0))) := Lib.hid (fun i hi => by
    obtain ⟨_, _, e, hc⟩ := hC i hi
    cases e
    exact hc)
  have HCI := Lib.hid hC
  have HWL := Lib.hid hl.len
  clear hR hl hC
  have HB0 : Hid (SSt w w.heap.size n #[.slice S n cS, .slice A n cA, .slice B n cB] (w.heap.size + 1) 0 0 [] [] ((w.alloc (.cells #[.slice S n cS, .slice A n cA, .slice B n cB] 54)).alloc (.cells #[] 45))) := Lib.hid (by
    have h1 := Crd.made (w.alloc (.cells #[.slice S n cS, .slice A n cA, .slice B n cB] 54)) w.heap.size (Keeps.alloc w _).size
    rw [World.size_alloc] at h1
    exact ⟨h1.crn, rfl, Nat.le_refl _, by omega, fun x hx => by simp at hx, (Blk.new w _ _).keeps (Keeps.alloc _ _), (Keeps.alloc w _).step (Keeps.alloc _ _)⟩)
  go_enter Tryz.func79, Tryz.ntmps79
  go_wp2_with fail
  go_loopw [7, 5] (fun i v wr => ∃ (a g m c : Nat) (R : List Hdr), a ≤ n ∧ i = .int .i64 a ∧ v = .slice (some ⟨g, 0, none⟩) m c ∧ Hid (SSt w w.heap.size n #[.slice S n cS, .slice A n cA, .slice B n cB] g m c R (allM F G l n a) wr)) (fun i _ _ => n - (intOf i).toNat)
  case atStart => exact ⟨0, w.heap.size + 1, 0, 0, [], by omega, rfl, rfl, HB0⟩
  case round =>
    clear HB0
    obtain ⟨a, g, m, c, R, ha, rfl, rfl, HS⟩ := hrel
    by_cases hlt : a < n
    · have hai : (a : Int) < n := by omega
      go_wp2_with fail
      go_loopw [8, 5] (fun i v wr => ∃ (b g m c : Nat) (R : List Hdr), b ≤ n ∧ i = .int .i64 b ∧ v = .slice (some ⟨g, 0, none⟩) m c ∧ Hid (SSt w w.heap.size n #[.slice S n cS, .slice A n cA, .slice B n cB] g m c R (allM F G l n a ++ rowM F G l a b) wr)) (fun i _ _ => n - (intOf i).toNat)
      case atStart => exact ⟨0, g, m, c, R, by omega, rfl, rfl, Lib.hid (by rw [rowM, List.append_nil]; exact HS.out)⟩
      case round =>
        clear HS
        obtain ⟨b, g, m, c, R, hb, rfl, rfl, HS⟩ := hrel
        by_cases hltb : b < n
        · have hbi : (b : Int) < n := by omega
          have ca := cell_keeps HS.out.keeps (HC.out a hlt)
          have cb := cell_keeps HS.out.keeps (HC.out b hltb)
          have hla := HW.out.at a hlt
          have hlb := HW.out.at b hltb
          have HOKD : Hid (okB l a b = ((!(l.getD a 0 == 0) && !(l.getD b 0 == 0)) && !(decide (a = b) && decide (l.getD a 0 < 2)))) := Lib.hid rfl
          have HNO : Hid (okB l a b = false → rowM F G l a (b + 1) = rowM F G l a b) := Lib.hid (fun h => by
            have : meetsB F G l a b = false := by unfold meetsB; rw [h]; rfl
            rw [rowM, this]
            simp)
          obtain ⟨ya, hya⟩ : ∃ y, y = l.getD a 0 := ⟨_, rfl⟩
          obtain ⟨yb, hyb⟩ : ∃ y, y = l.getD b 0 := ⟨_, rfl⟩
          rw [← hya] at ca hla HOKD
          rw [← hyb] at cb hlb HOKD
          clear hya hyb
          by_cases h1 : ya = 0
          · have h1' : (ya == 0) = true := by simp [h1]
            have HNX := Lib.hid (HNO.out (by rw [HOKD.out]; rw [h1']; rfl))
            clear HOKD HNO
            go_wp2_with fail
            go_roundw
            case rel => exact ⟨b + 1, g, m, c, R, by omega, by go_num, rfl, Lib.hid (by rw [HNX.out]; exact HS.out)⟩
            case measure => simp [intOf]; omega
          · have h1' : (ya == 0) = false := by simp [h1]
            by_cases h2 : yb = 0
            · have h2' : (yb == 0) = true := by simp [h2]
              have HNX := Lib.hid (HNO.out (by rw [HOKD.out]; rw [h1', h2']; rfl))
              clear HOKD HNO
              go_wp2_with fail
              go_roundw
              case rel => exact ⟨b + 1, g, m, c, R, by omega, by go_num, rfl, Lib.hid (by rw [HNX.out]; exact HS.out)⟩
              case measure => simp [intOf]; omega
            · have h2' : (yb == 0) = false := by simp [h2]
              by_cases hab : a = b
              · subst hab
                obtain rfl : ya = yb := by
                  rw [ca] at cb
                  injection cb with cb
                  injection cb
                clear cb hlb hbi
                by_cases h3 : ya < 2
                · have HNX := Lib.hid (HNO.out (by rw [HOKD.out]; rw [h1', decide_eq_true rfl, decide_eq_true h3]; rfl))
                  clear HOKD HNO
                  go_wp2_with fail
                  go_roundw
                  case rel => exact ⟨a + 1, g, m, c, R, by omega, by go_num, rfl, Lib.hid (by rw [HNX.out]; exact HS.out)⟩
                  case measure => simp [intOf]; omega
                · have HOK2 : Hid (okB l a a = true) := Lib.hid (by rw [HOKD.out, h1', decide_eq_true rfl, decide_eq_false h3]; rfl)
                  clear HOKD HNO
                  have HSZ : Hid (∀ x ∈ R, x.g < wr.heap.size) := Lib.hid (fun x hx => (own_block (HS.out.crn.row x hx) x.g rfl).2)
                  have hws := HS.out.keeps.size
                  go_wp2_with (first | (at_builtin; go_loud (refine wp_spread_int rfl _ _ rfl wr.heap.size (some ⟨wr.heap.size, 0, none⟩) 0 0 [] _ rfl (OwnInts.made _ _ (Nat.le_refl _)) dC oC n cC (fun i => l.getD i 0) rfl (fun i hi => cell_keeps (Keeps.alloc _ _) (cell_keeps HS.out.keeps (HC.out i hi))) (by omega) (by omega) (by simp) ?_; intro g8 c8 w2 hO2 hg2; have hO2 : OwnInts w2 wr.heap.size (some ⟨g8, 0, none⟩) n c8 l := (by have h := hO2; rw [Nat.zero_add, List.nil_append] at h; exact (il_list l n HWL.out) ▸ h); have hK2 : Keeps wr w2 := (Keeps.alloc wr _).grown (OwnInts.made wr wr.heap.size (Nat.le_refl _)) (Nat.le_refl _) hg2; have HS2 := Lib.hid (HS.out.step hK2); have HO2 := Lib.hid hO2; have hg8 := hO2.block; obtain ⟨va, vb, c1, f1, c2, f2, hwa, hwb, HO4⟩ := dec_facts hO2 HW.out hlt hlt; rw [Nat.zero_add]; clear hO2 hg2 hK2)))
                  as_aux_lemma =>
                    have HS4 : Hid (SSt w w.heap.size n #[.slice S n cS, .slice A n cA, .slice B n cB] g m c R (allM F G l n a ++ rowM F G l a a) ((w2.setCell ⟨g8, a, none⟩ (.int .i64 (va - 1))).setCell ⟨g8, a, none⟩ (.int .i64 (vb - 1)))) := Lib.hid ((HS2.out.other HO2.out (fun x hx => by have := HSZ.out x hx; omega) (by omega) _ _).other (l := l.set a (va - 1)) (by have h := HO2.out.set a (va - 1); exact h) (fun x hx => by have := HSZ.out x hx; omega) (by omega) _ _)
                    generalize ((w2.setCell ⟨g8, a, none⟩ (.int .i64 (va - 1))).setCell ⟨g8, a, none⟩ (.int .i64 (vb - 1))) = w4 at *
                    have HNE8 : Hid (∀ x ∈ R, x.g ≠ g8) := Lib.hid (fun x hx => by have := HSZ.out x hx; omega)
                    have HG8 : Hid (w.heap.size < g8 ∧ wr.heap.size ≤ g8) := Lib.hid (by have := HS.out.box.lt; omega)
                    clear c1 f1 c2 f2 hwa hwb HS2 HO2
                    obtain ⟨hFn, hGn⟩ := HR.out.rul a a hlt hlt
                    obtain ⟨⟨dA, oA, eA, hcA⟩, hIA⟩ := HR.out.first a hlt
                    obtain ⟨⟨dB, oB, eB, hcB⟩, hIB⟩ := HR.out.second a hlt
                    rw [HR.out.lA a hlt] at hcA hIA
                    rw [HR.out.lB a hlt] at hcB hIB
                    obtain ⟨dF, oF, eF, hcF⟩ := hIA a hlt
                    obtain ⟨dG, oG, eG, hcG⟩ := hIB a hlt
                    rw [eF] at hcA
                    rw [eG] at hcB
                    dsimp only at hcF hcG
                    obtain ⟨xA, hxA⟩ : ∃ x, x = (rA a).2.2 := ⟨_, rfl⟩
                    obtain ⟨xB, hxB⟩ : ∃ x, x = (rB a).2.2 := ⟨_, rfl⟩
                    rw [← hxA] at hcA
                    rw [← hxB] at hcB
                    subst eA
                    subst eB
                    clear hIA hIB eF eG hxA hxB
                    obtain ⟨vF, vG, hcF8, hfF8, hcG8, hfG8, hwF, hwG, HOM⟩ := inc_facts HO4.out HW.out HOK2.out hlt hlt hFn hGn
                    have HTB : Hid (∀ W, Keeps w W → W.cell? ⟨dB, oB + a, none⟩ = some (.slice (some ⟨dG, oG, none⟩) n xB) ∧ W.cell? ⟨dG, oG + a, none⟩ = some (.int .i64 (G a a))) := Lib.hid (fun W hK => ⟨cell_keeps hK hcB, cell_keeps hK hcG⟩)
                    have hdB : dB ≠ g8 := fun e => by have := World.block_lt_of_cell? w _ hcB; simp only at this; have := HG8.out; omega
                    have hdG : dG ≠ g8 := fun e => by have := World.block_lt_of_cell? w _ hcG; simp only at this; have := HG8.out; omega
                    replace hcA := cell_keeps HS4.out.keeps hcA
                    replace hcF := cell_keeps HS4.out.keeps hcF
                    have b1 : w4.cell? ⟨w.heap.size, 1, none⟩ = some (.slice (some ⟨dA, oA, none⟩) n cA) := HS4.out.box.cell 1
                    have HFN := Lib.hid (And.intro hFn hGn)
                    have hFi : ((F a a : Nat) : Int) < n := by omega
                    have hGi : ((G a a : Nat) : Int) < n := by omega
                    obtain ⟨pF, hpF⟩ : ∃ p, p = F a a := ⟨_, rfl⟩
                    obtain ⟨pG, hpG⟩ : ∃ p, p = G a a := ⟨_, rfl⟩
                    rw [← hpF] at hcF hcF8 hfF8 hcG8 hfG8 HOM hFi hFn
                    rw [← hpG] at hcG8 hfG8 HOM hGi hGn
                    rw [← hpG] at HTB
                    have HPP := Lib.hid (And.intro hpF hpG)
                    clear hpF hpG hcB hcG
                    go_wp2_with fail
                    go_region
                    have HS5 : Hid (SSt w w.heap.size n #[.slice S n cS, .slice (some ⟨dA, oA, none⟩) n cA, .slice (some ⟨dB, oB, none⟩) n cB] g m c R (allM F G l n a ++ rowM F G l a a) (w4.setCell ⟨g8, pF, none⟩ (.int .i64 (vF + 1))).drew) := Lib.hid ((HS4.out.other HO4.out HNE8.out (by have := HG8.out; omega) _ _).step (Keeps.drew1 _))
                    have HO5 : Hid (OwnInts (w4.setCell ⟨g8, pF, none⟩ (.int .i64 (vF + 1))).drew wr.heap.size (some ⟨g8, 0, none⟩) n c8 (incL (decL l a a) pF)) := Lib.hid (HOM.out.1.keeps (Keeps.drew1 _))
                    have HOM5 : Hid (OwnInts ((w4.setCell ⟨g8, pF, none⟩ (.int .i64 (vF + 1))).drew.setCell ⟨g8, pG, none⟩ (.int .i64 (vG + 1))) wr.heap.size (some ⟨g8, 0, none⟩) n c8 (meetL F G l a a)) := Lib.hid HOM.out.2
                    have e1 : (w4.setCell ⟨g8, pF, none⟩ (.int .i64 (vF + 1))).drew.cell? ⟨g8, pG, none⟩ = some (.int .i64 vG) := hcG8
                    have e2 : (w4.setCell ⟨g8, pF, none⟩ (.int .i64 (vF + 1))).drew.frozen? ⟨g8, pG, none⟩ = false := hfG8
                    clear hcF8 hfF8 hcG8 hfG8 HOM hcA hcF b1 HS4 HO4 hwF
                    as_aux_lemma =>
                      go_wp2_with fail
                      generalize (w4.setCell ⟨g8, pF, none⟩ (.int .i64 (vF + 1))).drew = w5 at *
                      obtain ⟨hcB, hcG⟩ := HTB.out w5 HS5.out.keeps
                      have b2 : w5.cell? ⟨w.heap.size, 2, none⟩ = some (.slice (some ⟨dB, oB, none⟩) n cB) := HS5.out.box.cell 2
                      go_region
                      have HS6 : Hid (SSt w w.heap.size n #[.slice S n cS, .slice (some ⟨dA, oA, none⟩) n cA, .slice (some ⟨dB, oB, none⟩) n cB] g m c R (allM F G l n a ++ rowM F G l a a) (w5.setCell ⟨g8, pG, none⟩ (.int .i64 (vG + 1))).drew) := Lib.hid ((HS5.out.other HO5.out HNE8.out (by have := HG8.out; omega) _ _).step (Keeps.drew1 _))
                      have HO6 : Hid (OwnInts (w5.setCell ⟨g8, pG, none⟩ (.int .i64 (vG + 1))).drew wr.heap.size (some ⟨g8, 0, none⟩) n c8 (meetL F G l a a)) := Lib.hid (HOM5.out.keeps (Keeps.drew1 _))
                      clear hcB hcG b2 e1 e2 HS5 HO5 HOM5 hwG
                      have HME : Hid (meetsB F G l a a = !decide (meetL F G l a a = l)) := Lib.hid (by unfold meetsB; rw [HOK2.out]; rfl)
                      have HML : Hid ((meetL F G l a a).length = n) := Lib.hid (by rw [meetL_len, HWL.out])
                      as_aux_lemma =>
                        go_wp2_with fail
                        generalize (w5.setCell ⟨g8, pG, none⟩ (.int .i64 (vG + 1))).drew = w6 at *
                        have CE := Lib.hid (same_any (some ⟨g8, 0, none⟩) (some ⟨dC, oC, none⟩) n c8 cC (meetL F G l a a) l w6 HML.out HWL.out (by omega) (HML.out ▸ HO6.out.ints) (HCI.out.keeps HS6.out.keeps))
                        as_aux_lemma =>
                          cases hme : decide (meetL F G l a a = l)
                          · rw [hme] at HME CE
                            have HNX : Hid (rowM F G l a (a + 1) = rowM F G l a a ++ [meetL F G l a a]) := Lib.hid (by rw [rowM, HME.out]; rfl)
                            clear hme
                            refine CE.out.mono ?_
                            rintro e w7 ⟨rfl, hk7⟩
                            have HS7 := Lib.hid (HS6.out.step hk7)
                            have HO7 := Lib.hid (HO6.out.keeps hk7)
                            have CI := Lib.hid (insert_any g m c w.heap.size n R ⟨g8, c8, c8, meetL F G l a a⟩ w7 HS7.out.crn (by rw [HML.out]; exact HO7.out.mono hws) (by omega) HML.out HS7.out.lens (by have := HS7.out.le hn4; omega) HS7.out.mc HS7.out.c63 HS7.out.keeps.size)
                            unfold Hdr.v at CI
                            rw [HML.out] at CI
                            clear hk7 CE HS6 HO6
                            go_wp2_with fail
                            refine CI.out.mono ?_
                            rintro e w8 ⟨g9, m9, c9, R9, rfl, hc9, hm9, hR9, hmc9, hk8, _⟩
                            have HS8 : Hid (SSt w w.heap.size n #[.slice S n cS, .slice (some ⟨dA, oA, none⟩) n cA, .slice (some ⟨dB, oB, none⟩) n cB] g9 m9 c9 R9 (allM F G l n a ++ rowM F G l a (a + 1)) w8) := Lib.hid ⟨hR9, by rw [hc9, HS7.out.cont, HNX.out, ← List.append_assoc, canL_snoc], hmc9.1, hmc9.2, fun x hx => by
                              rw [HNX.out, ← List.append_assoc] at hx
                              rcases List.mem_append.1 hx with h | h
                              · exact HS7.out.crw x h
                              · rw [List.mem_singleton] at h
                                subst h
                                exact (meet_crw HW.out hlt hlt (HR.out.rul a a hlt hlt).1 (HR.out.rul a a hlt hlt).2 HOK2.out).1, HS7.out.box.keeps hk8, HS7.out.keeps.step hk8⟩
                            clear hc9 hm9 hR9 hmc9 hk8 CI
                            go_wp2_with fail
                            go_roundw
                            case rel => exact ⟨a + 1, g9, m9, c9, R9, by omega, by go_num, rfl, HS8⟩
                            case measure => simp [intOf]; omega
                          · rw [hme] at HME CE
                            have HNX : Hid (rowM F G l a (a + 1) = rowM F G l a a) := Lib.hid (by rw [rowM, HME.out]; simp)
                            clear hme
                            refine CE.out.mono ?_
                            rintro e w7 ⟨rfl, hk7⟩
                            have HS7 := Lib.hid (HS6.out.step hk7)
                            clear hk7 CE HS6 HO6
                            go_wp2_with fail
                            go_roundw
                            case rel => exact ⟨a + 1, g, m, c, R, by omega, by go_num, rfl, Lib.hid (by rw [HNX.out]; exact HS7.out)⟩
                            case measure => simp [intOf]; omega
              · have hab' : ((a : Int) == (b : Int)) = false := by simp; omega
                have HOK2 : Hid (okB l a b = true) := Lib.hid (by rw [HOKD.out, h1', h2', decide_eq_false hab]; rfl)
                clear hab
                clear HOKD HNO
                have HSZ : Hid (∀ x ∈ R, x.g < wr.heap.size) := Lib.hid (fun x hx => (own_block (HS.out.crn.row x hx) x.g rfl).2)
                have hws := HS.out.keeps.size
                go_wp2_with (first | (at_builtin; go_loud (refine wp_spread_int rfl _ _ rfl wr.heap.size (some ⟨wr.heap.size, 0, none⟩) 0 0 [] _ rfl (OwnInts.made _ _ (Nat.le_refl _)) dC oC n cC (fun i => l.getD i 0) rfl (fun i hi => cell_keeps (Keeps.alloc _ _) (cell_keeps HS.out.keeps (HC.out i hi))) (by omega) (by omega) (by simp) ?_; intro g8 c8 w2 hO2 hg2; have hO2 : OwnInts w2 wr.heap.size (some ⟨g8, 0, none⟩) n c8 l := (by have h := hO2; rw [Nat.zero_add, List.nil_append] at h; exact (il_list l n HWL.out) ▸ h); have hK2 : Keeps wr w2 := (Keeps.alloc wr _).grown (OwnInts.made wr wr.heap.size (Nat.le_refl _)) (Nat.le_refl _) hg2; have HS2 := Lib.hid (HS.out.step hK2); have HO2 := Lib.hid hO2; have hg8 := hO2.block; obtain ⟨va, vb, c1, f1, c2, f2, hwa, hwb, HO4⟩ := dec_facts hO2 HW.out hlt hltb; rw [Nat.zero_add]; clear hO2 hg2 hK2)))
                as_aux_lemma =>
                  have HS4 : Hid (SSt w w.heap.size n #[.slice S n cS, .slice A n cA, .slice B n cB] g m c R (allM F G l n a ++ rowM F G l a b) ((w2.setCell ⟨g8, a, none⟩ (.int .i64 (va - 1))).setCell ⟨g8, b, none⟩ (.int .i64 (vb - 1)))) := Lib.hid ((HS2.out.other HO2.out (fun x hx => by have := HSZ.out x hx; omega) (by omega) _ _).other (l := l.set a (va - 1)) (by have h := HO2.out.set a (va - 1); exact h) (fun x hx => by have := HSZ.out x hx; omega) (by omega) _ _)
                  generalize ((w2.setCell ⟨g8, a, none⟩ (.int .i64 (va - 1))).setCell ⟨g8, b, none⟩ (.int .i64 (vb - 1))) = w4 at *
                  have HNE8 : Hid (∀ x ∈ R, x.g ≠ g8) := Lib.hid (fun x hx => by have := HSZ.out x hx; omega)
                  have HG8 : Hid (w.heap.size < g8 ∧ wr.heap.size ≤ g8) := Lib.hid (by have := HS.out.box.lt; omega)
                  clear c1 f1 c2 f2 hwa hwb HS2 HO2
                  obtain ⟨hFn, hGn⟩ := HR.out.rul a b hlt hltb
                  obtain ⟨⟨dA, oA, eA, hcA⟩, hIA⟩ := HR.out.first a hlt
                  obtain ⟨⟨dB, oB, eB, hcB⟩, hIB⟩ := HR.out.second a hlt
                  rw [HR.out.lA a hlt] at hcA hIA
                  rw [HR.out.lB a hlt] at hcB hIB
                  obtain ⟨dF, oF, eF, hcF⟩ := hIA b hltb
                  obtain ⟨dG, oG, eG, hcG⟩ := hIB b hltb
                  rw [eF] at hcA
                  rw [eG] at hcB
                  dsimp only at hcF hcG
                  obtain ⟨xA, hxA⟩ : ∃ x, x = (rA a).2.2 := ⟨_, rfl⟩
                  obtain ⟨xB, hxB⟩ : ∃ x, x = (rB a).2.2 := ⟨_, rfl⟩
                  rw [← hxA] at hcA
                  rw [← hxB] at hcB
                  subst eA
                  subst eB
                  clear hIA hIB eF eG hxA hxB
                  obtain ⟨vF, vG, hcF8, hfF8, hcG8, hfG8, hwF, hwG, HOM⟩ := inc_facts HO4.out HW.out HOK2.out hlt hltb hFn hGn
                  have HTB : Hid (∀ W, Keeps w W → W.cell? ⟨dB, oB + a, none⟩ = some (.slice (some ⟨dG, oG, none⟩) n xB) ∧ W.cell? ⟨dG, oG + b, none⟩ = some (.int .i64 (G a b))) := Lib.hid (fun W hK => ⟨cell_keeps hK hcB, cell_keeps hK hcG⟩)
                  have hdB : dB ≠ g8 := fun e => by have := World.block_lt_of_cell? w _ hcB; simp only at this; have := HG8.out; omega
                  have hdG : dG ≠ g8 := fun e => by have := World.block_lt_of_cell? w _ hcG; simp only at this; have := HG8.out; omega
                  replace hcA := cell_keeps HS4.out.keeps hcA
                  replace hcF := cell_keeps HS4.out.keeps hcF
                  have b1 : w4.cell? ⟨w.heap.size, 1, none⟩ = some (.slice (some ⟨dA, oA, none⟩) n cA) := HS4.out.box.cell 1
                  have HFN := Lib.hid (And.intro hFn hGn)
                  have hFi : ((F a b : Nat) : Int) < n := by omega
                  have hGi : ((G a b : Nat) : Int) < n := by omega
                  obtain ⟨pF, hpF⟩ : ∃ p, p = F a b := ⟨_, rfl⟩
                  obtain ⟨pG, hpG⟩ : ∃ p, p = G a b := ⟨_, rfl⟩
                  rw [← hpF] at hcF hcF8 hfF8 hcG8 hfG8 HOM hFi hFn
                  rw [← hpG] at hcG8 hfG8 HOM hGi hGn
                  rw [← hpG] at HTB
                  have HPP := Lib.hid (And.intro hpF hpG)
                  clear hpF hpG hcB hcG
                  go_wp2_with fail
                  go_region
                  have HS5 : Hid (SSt w w.heap.size n #[.slice S n cS, .slice (some ⟨dA, oA, none⟩) n cA, .slice (some ⟨dB, oB, none⟩) n cB] g m c R (allM F G l n a ++ rowM F G l a b) (w4.setCell ⟨g8, pF, none⟩ (.int .i64 (vF + 1))).drew) := Lib.hid ((HS4.out.other HO4.out HNE8.out (by have := HG8.out; omega) _ _).step (Keeps.drew1 _))
                  have HO5 : Hid (OwnInts (w4.setCell ⟨g8, pF, none⟩ (.int .i64 (vF + 1))).drew wr.heap.size (some ⟨g8, 0, none⟩) n c8 (incL (decL l a b) pF)) := Lib.hid (HOM.out.1.keeps (Keeps.drew1 _))
                  have HOM5 : Hid (OwnInts ((w4.setCell ⟨g8, pF, none⟩ (.int .i64 (vF + 1))).drew.setCell ⟨g8, pG, none⟩ (.int .i64 (vG + 1))) wr.heap.size (some ⟨g8, 0, none⟩) n c8 (meetL F G l a b)) := Lib.hid HOM.out.2
                  have e1 : (w4.setCell ⟨g8, pF, none⟩ (.int .i64 (vF + 1))).drew.cell? ⟨g8, pG, none⟩ = some (.int .i64 vG) := hcG8
                  have e2 : (w4.setCell ⟨g8, pF, none⟩ (.int .i64 (vF + 1))).drew.frozen? ⟨g8, pG, none⟩ = false := hfG8
                  clear hcF8 hfF8 hcG8 hfG8 HOM hcA hcF b1 HS4 HO4 hwF
                  as_aux_lemma =>
                    go_wp2_with fail
                    generalize (w4.setCell ⟨g8, pF, none⟩ (.int .i64 (vF + 1))).drew = w5 at *
                    obtain ⟨hcB, hcG⟩ := HTB.out w5 HS5.out.keeps
                    have b2 : w5.cell? ⟨w.heap.size, 2, none⟩ = some (.slice (some ⟨dB, oB, none⟩) n cB) := HS5.out.box.cell 2
                    go_region
                    have HS6 : Hid (SSt w w.heap.size n #[.slice S n cS, .slice (some ⟨dA, oA, none⟩) n cA, .slice (some ⟨dB, oB, none⟩) n cB] g m c R (allM F G l n a ++ rowM F G l a b) (w5.setCell ⟨g8, pG, none⟩ (.int .i64 (vG + 1))).drew) := Lib.hid ((HS5.out.other HO5.out HNE8.out (by have := HG8.out; omega) _ _).step (Keeps.drew1 _))
                    have HO6 : Hid (OwnInts (w5.setCell ⟨g8, pG, none⟩ (.int .i64 (vG + 1))).drew wr.heap.size (some ⟨g8, 0, none⟩) n c8 (meetL F G l a b)) := Lib.hid (HOM5.out.keeps (Keeps.drew1 _))
                    clear hcB hcG b2 e1 e2 HS5 HO5 HOM5 hwG
                    have HME : Hid (meetsB F G l a b = !decide (meetL F G l a b = l)) := Lib.hid (by unfold meetsB; rw [HOK2.out]; rfl)
                    have HML : Hid ((meetL F G l a b).length = n) := Lib.hid (by rw [meetL_len, HWL.out])
                    as_aux_lemma =>
                      go_wp2_with fail
                      generalize (w5.setCell ⟨g8, pG, none⟩ (.int .i64 (vG + 1))).drew = w6 at *
                      have CE := Lib.hid (same_any (some ⟨g8, 0, none⟩) (some ⟨dC, oC, none⟩) n c8 cC (meetL F G l a b) l w6 HML.out HWL.out (by omega) (HML.out ▸ HO6.out.ints) (HCI.out.keeps HS6.out.keeps))
                      as_aux_lemma =>
                        cases hme : decide (meetL F G l a b = l)
                        · rw [hme] at HME CE
                          have HNX : Hid (rowM F G l a (b + 1) = rowM F G l a b ++ [meetL F G l a b]) := Lib.hid (by rw [rowM, HME.out]; rfl)
                          clear hme
                          refine CE.out.mono ?_
                          rintro e w7 ⟨rfl, hk7⟩
                          have HS7 := Lib.hid (HS6.out.step hk7)
                          have HO7 := Lib.hid (HO6.out.keeps hk7)
                          have CI := Lib.hid (insert_any g m c w.heap.size n R ⟨g8, c8, c8, meetL F G l a b⟩ w7 HS7.out.crn (by rw [HML.out]; exact HO7.out.mono hws) (by omega) HML.out HS7.out.lens (by have := HS7.out.le hn4; omega) HS7.out.mc HS7.out.c63 HS7.out.keeps.size)
                          unfold Hdr.v at CI
                          rw [HML.out] at CI
                          clear hk7 CE HS6 HO6
                          go_wp2_with fail
                          refine CI.out.mono ?_
                          rintro e w8 ⟨g9, m9, c9, R9, rfl, hc9, hm9, hR9, hmc9, hk8, _⟩
                          have HS8 : Hid (SSt w w.heap.size n #[.slice S n cS, .slice (some ⟨dA, oA, none⟩) n cA, .slice (some ⟨dB, oB, none⟩) n cB] g9 m9 c9 R9 (allM F G l n a ++ rowM F G l a (b + 1)) w8) := Lib.hid ⟨hR9, by rw [hc9, HS7.out.cont, HNX.out, ← List.append_assoc, canL_snoc], hmc9.1, hmc9.2, fun x hx => by
                            rw [HNX.out, ← List.append_assoc] at hx
                            rcases List.mem_append.1 hx with h | h
                            · exact HS7.out.crw x h
                            · rw [List.mem_singleton] at h
                              subst h
                              exact (meet_crw HW.out hlt hltb (HR.out.rul a b hlt hltb).1 (HR.out.rul a b hlt hltb).2 HOK2.out).1, HS7.out.box.keeps hk8, HS7.out.keeps.step hk8⟩
                          clear hc9 hm9 hR9 hmc9 hk8 CI
                          go_wp2_with fail
                          go_roundw
                          case rel => exact ⟨b + 1, g9, m9, c9, R9, by omega, by go_num, rfl, HS8⟩
                          case measure => simp [intOf]; omega
                        · rw [hme] at HME CE
                          have HNX : Hid (rowM F G l a (b + 1) = rowM F G l a b) := Lib.hid (by rw [rowM, HME.out]; simp)
                          clear hme
                          refine CE.out.mono ?_
                          rintro e w7 ⟨rfl, hk7⟩
                          have HS7 := Lib.hid (HS6.out.step hk7)
                          clear hk7 CE HS6 HO6
                          go_wp2_with fail
                          go_roundw
                          case rel => exact ⟨b + 1, g, m, c, R, by omega, by go_num, rfl, Lib.hid (by rw [HNX.out]; exact HS7.out)⟩
                          case measure => simp [intOf]; omega
        · obtain rfl : b = n := by omega
          go_wp2_with fail
          go_roundw
          case rel => exact ⟨a + 1, g, m, c, R, by omega, by go_num, rfl, Lib.hid (by rw [allM]; exact HS.out)⟩
          case measure => simp [intOf]; omega
    · obtain rfl : a = n := by omega
      go_wp2_with fail
      go_ret
      exact ⟨R, g, m, c, rfl, HS.out.cont, HS.out.crn, ⟨HS.out.mc, HS.out.c63⟩, HS.out.keeps⟩
end Go.Proofs.YtlniogfinofakaaGreatDoor
