/-
  Rules of crowds in memory, and impl.ValidRules and impl.crowdOk. Conditions: lengths at most 2^40.
-/
import Derived.Test.YtaejakejnllimaaCrowd
import Derived.Test.YtaejakejnllimaaPure
import Derived.Test.YtaejakejnllimaaFunc
import Derived.Test.YtaejakejnllimaaOwn
import Derived.Test.YtaejakejnllimaaMem
namespace Go.Proofs.Ytaejakejnllimaa
set_option maxRecDepth 100000
set_option linter.unusedVariables false
open Go.RowKit

/-- Rules in memory: what kinds say, and the two tables. -/
structure RulAt (w : World) (S : Option Addr) (nS : Nat) (s : Nat → Int) (A : Option Addr) (nA : Nat) (rA : Nat → Option Addr × Nat × Nat) (f : Nat → Nat → Int) (B : Option Addr) (nB : Nat) (rB : Nat → Option Addr × Nat × Nat) (g : Nat → Nat → Int) : Prop where
  says : Ints w S nS s
  first : Rows w A nA rA f
  second : Rows w B nB rB g
  bS : nS ≤ 1099511627776
  bA : nA ≤ 1099511627776
  bB : nB ≤ 1099511627776
  lA : ∀ i, i < nA → (rA i).2.1 ≤ 1099511627776
  lB : ∀ i, i < nB → (rB i).2.1 ≤ 1099511627776
def bitB (x : Int) : Bool := x == 0 || x == 1
def sqB (n : Nat) (r : Nat → Option Addr × Nat × Nat) (f : Nat → Nat → Int) (k : Nat) : Bool :=
  decide (n = k) && !anyB (fun i => !decide ((r i).2.1 = k) || anyB (fun j => !inB (f i j) 0 ((k : Int) - 1)) (r i).2.1) n
def rulB (nS : Nat) (s : Nat → Int) (nA : Nat) (rA : Nat → Option Addr × Nat × Nat) (f : Nat → Nat → Int) (nB : Nat) (rB : Nat → Option Addr × Nat × Nat) (g : Nat → Nat → Int) : Bool :=
  ((inB nS 1 4 && !anyB (fun i => !bitB (s i)) nS) && sqB nA rA f nS) && sqB nB rB g nS
section
variable {w w' : World} {S A B : Option Addr} {nS nA nB : Nat} {s : Nat → Int} {rA rB : Nat → Option Addr × Nat × Nat} {f g : Nat → Nat → Int}
theorem RulAt.keeps (h : RulAt w S nS s A nA rA f B nB rB g) (k : Keeps w w') : RulAt w' S nS s A nA rA f B nB rB g :=
  ⟨h.says.keeps k, h.first.keeps k, h.second.keeps k, h.bS, h.bA, h.bB, h.lA, h.lB⟩
theorem sqB_iff {n k : Nat} {r : Nat → Option Addr × Nat × Nat} {f : Nat → Nat → Int} : sqB n r f k = true ↔ n = k ∧ ∀ i, i < k → (r i).2.1 = k ∧ ∀ j, j < k → 0 ≤ f i j ∧ f i j ≤ (k : Int) - 1 := by
  unfold sqB
  simp only [Bool.and_eq_true, decide_eq_true_eq, Bool.not_eq_true']
  rw [anyB_false]
  constructor
  · rintro ⟨rfl, h⟩
    refine ⟨rfl, fun i hi => ?_⟩
    have := h i hi
    simp only [Bool.or_eq_false_iff, Bool.not_eq_false', decide_eq_true_eq] at this
    refine ⟨this.1, fun j hj => ?_⟩
    have h2 := this.2
    rw [this.1, anyB_false] at h2
    exact inB_true (by simpa using h2 j hj)
  · rintro ⟨rfl, h⟩
    refine ⟨rfl, fun i hi => ?_⟩
    obtain ⟨h1, h2⟩ := h i hi
    simp only [Bool.or_eq_false_iff, Bool.not_eq_false', decide_eq_true_eq]
    refine ⟨h1, ?_⟩
    rw [h1, anyB_false]
    intro j hj
    obtain ⟨h3, h4⟩ := h2 j hj
    rw [inB_mk h3 h4]; rfl
theorem bitB_iff {x : Int} : bitB x = true ↔ x = 0 ∨ x = 1 := by unfold bitB; simp
theorem rulB_iff : rulB nS s nA rA f nB rB g = true ↔ (1 ≤ nS ∧ nS ≤ 4) ∧ nA = nS ∧ nB = nS ∧ ∀ a, a < nS → (s a = 0 ∨ s a = 1) ∧ (rA a).2.1 = nS ∧ (rB a).2.1 = nS ∧ ∀ b, b < nS → (0 ≤ f a b ∧ f a b ≤ (nS : Int) - 1) ∧ (0 ≤ g a b ∧ g a b ≤ (nS : Int) - 1) := by
  unfold rulB
  simp only [Bool.and_eq_true, Bool.not_eq_true']
  rw [sqB_iff, sqB_iff, anyB_false]
  constructor
  · rintro ⟨⟨⟨h1, h2⟩, h3, h4⟩, h5, h6⟩
    have h1 := inB_true h1
    refine ⟨by omega, h3, h5, fun a ha => ⟨bitB_iff.1 (by simpa using h2 a ha), (h4 a ha).1, (h6 a ha).1, fun b hb => ⟨(h4 a ha).2 b hb, (h6 a ha).2 b hb⟩⟩⟩
  · rintro ⟨h1, h2, h3, h4⟩
    refine ⟨⟨⟨inB_mk (by omega) (by omega), fun i hi => ?_⟩, h2, fun i hi => ⟨(h4 i hi).2.1, fun j hj => ((h4 i hi).2.2.2 j hj).1⟩⟩, h3, fun i hi => ⟨(h4 i hi).2.2.1, fun j hj => ((h4 i hi).2.2.2 j hj).2⟩⟩
    rw [bitB_iff.2 (h4 i hi).1]; rfl
end
theorem bitOk_any (x : Int) (w : World) : Calls Try.prog 45 #[.int .i64 x] w fun e w' => e = .returned (.bool (bitB x)) ∧ w = w' := by
  by_cases h0 : x = 0
  · subst h0
    go_enter Try.func45, Try.ntmps45
    go_wp2
    go_ret
    exact ⟨rfl, rfl⟩
  · have h0' : (x == 0) = false := by simp [h0]
    have HV : Hid ((x == 1) = bitB x) := Lib.hid (by unfold bitB; rw [h0']; rfl)
    generalize bitB x = V at *
    cases h1 : (x == 1)
    · rw [h1] at HV
      go_enter Try.func45, Try.ntmps45
      go_wp2
      go_ret
      exact ⟨ret_bool HV.out, rfl⟩
    · rw [h1] at HV
      go_enter Try.func45, Try.ntmps45
      go_wp2
      go_ret
      exact ⟨ret_bool HV.out, rfl⟩
theorem vr1_any (x : Int) (w : World) : Calls Try.prog 44 #[.int .i64 x] w fun e w' => e = .returned (.bool (!bitB x)) ∧ Keeps w w' := by
  go_enter Try.func44, Try.ntmps44
  go_wp2_with fail
  refine (bitOk_any _ _).mono ?_
  rintro e w1 ⟨rfl, rfl⟩
  go_wp2_with fail
  go_ret
  exact ⟨rfl, Keeps.refl _⟩
theorem sq2_any (b : Nat) (x k km : Int) (w : World) (hkm : wrap64 (k - 1) = km) (hc : w.cell? ⟨b, 0, none⟩ = some (.int .i64 k)) :
    Calls Try.prog 68 #[.int .i64 x, .pointer (some ⟨b, 0, none⟩)] w fun e w' => e = .returned (.bool (!inB x 0 km)) ∧ Keeps w w' := by
  have HKM := Lib.hid hkm
  go_enter Try.func68, Try.ntmps68
  go_wp2_with fail
  refine (within_any _ _ _ _).mono ?_
  rintro e w1 ⟨rfl, rfl⟩
  go_wp2_with fail
  go_ret
  exact ⟨rfl, Keeps.refl _⟩
theorem sq1_any (b : Nat) (a : Option Addr) (n c k : Nat) (x : Nat → Int) (w : World) (hn : n ≤ 1099511627776) (hk : k ≤ 1099511627776) (hI : Ints w a n x) (hc : w.cell? ⟨b, 0, none⟩ = some (.int .i64 k)) :
    Calls Try.prog 67 #[.slice a n c, .pointer (some ⟨b, 0, none⟩)] w fun e w' => e = .returned (.bool (!decide (n = k) || anyB (fun j => !inB (x j) 0 ((k : Int) - 1)) n)) ∧ Keeps w w' := by
  have hmf : ∀ (fn : Fn) (first cap : Array Value) (w : World), (Instr.makeFunc fn first cap).run Try.prog w = .ok (.func fn first cap) w := fun _ _ _ _ => rfl
  have HI := Lib.hid hI
  have HC := Lib.hid hc
  by_cases hnk : n = k
  · subst hnk
    have HV : Hid (anyB (fun j => !inB (x j) 0 ((n : Int) - 1)) n = (!decide (n = n) || anyB (fun j => !inB (x j) 0 ((n : Int) - 1)) n)) := Lib.hid (by simp)
    have hne : ((n : Int) != (n : Int)) = false := by simp
    clear hI
    go_enter Try.func67, Try.ntmps67
    go_wp2_with fail
    refine (intcontains_any 68 #[.pointer (some ⟨b, 0, none⟩)] a n c x (fun j => !inB (x j) 0 ((n : Int) - 1)) _ hn HI.out (fun _ _ => rfl) (fun j w' _ hk => sq2_any b (x j) n _ w' (by unfold wrap64; omega) (cell_keeps hk HC.out))).mono ?_
    rintro e w1 ⟨rfl, hk1⟩
    have HK1 := Lib.hid hk1
    clear hk1
    go_wp2_with fail
    go_ret
    exact ⟨ret_bool HV.out, HK1.out⟩
  · have HV : Hid (true = (!decide (n = k) || anyB (fun j => !inB (x j) 0 ((k : Int) - 1)) n)) := Lib.hid (by simp [hnk])
    have hne : ((n : Int) != (k : Int)) = true := by simp; omega
    clear hI hnk
    go_enter Try.func67, Try.ntmps67
    go_wp2_with fail
    go_ret
    exact ⟨ret_bool HV.out, Keeps.refl _⟩
theorem square_any (a : Option Addr) (n c k : Nat) (r : Nat → Option Addr × Nat × Nat) (f : Nat → Nat → Int) (w : World) (hn : n ≤ 1099511627776) (hk : k ≤ 1099511627776) (hI : Rows w a n r f) (hl : ∀ i, i < n → (r i).2.1 ≤ 1099511627776) :
    Calls Try.prog 46 #[.slice a n c, .int .i64 k] w fun e w' => e = .returned (.bool (sqB n r f k)) ∧ Keeps w w' := by
  have hmf : ∀ (fn : Fn) (first cap : Array Value) (w : World), (Instr.makeFunc fn first cap).run Try.prog w = .ok (.func fn first cap) w := fun _ _ _ _ => rfl
  have HK0 : Hid (Keeps w (w.alloc (.cells #[.int .i64 k] 3))) := Lib.hid (Keeps.alloc w _)
  have HI := Lib.hid (hI.keeps HK0.out)
  have HL := Lib.hid hl
  have HC : Hid ((w.alloc (.cells #[.int .i64 k] 3)).cell? ⟨w.heap.size, 0, none⟩ = some (.int .i64 k)) := Lib.hid (by simp)
  clear hI hl
  by_cases hnk : n = k
  · subst hnk
    have HV : Hid ((!anyB (fun i => !decide ((r i).2.1 = n) || anyB (fun j => !inB (f i j) 0 ((n : Int) - 1)) (r i).2.1) n) = sqB n r f n) := Lib.hid (by unfold sqB; simp)
    go_enter Try.func46, Try.ntmps46
    go_wp2_with fail
    refine (rowcontains_any 67 #[.pointer (some ⟨w.heap.size, 0, none⟩)] a n c r f (fun i => !decide ((r i).2.1 = n) || anyB (fun j => !inB (f i j) 0 ((n : Int) - 1)) (r i).2.1) _ hn HI.out (fun _ _ => rfl) (fun i w' hi hk => sq1_any w.heap.size _ _ _ n (f i) w' (HL.out i hi) hn ((HI.out i hi).2.keeps hk) (cell_keeps hk HC.out))).mono ?_
    rintro e w1 ⟨rfl, hk1⟩
    have HK1 := Lib.hid (HK0.out.step hk1)
    clear hk1
    go_wp2_with fail
    go_ret
    exact ⟨ret_bool HV.out, HK1.out⟩
  · have HV : Hid (false = sqB n r f k) := Lib.hid (by unfold sqB; simp [hnk])
    have hne : ((n : Int) == (k : Int)) = false := by simp; omega
    clear hnk
    go_enter Try.func46, Try.ntmps46
    go_wp2_with fail
    go_ret
    exact ⟨ret_bool HV.out, HK0.out⟩
set_option maxHeartbeats 1000000 in
theorem validRules_any (S A B : Option Addr) (nS cS nA cA nB cB : Nat) (s : Nat → Int) (rA rB : Nat → Option Addr × Nat × Nat) (f g : Nat → Nat → Int) (w : World) (hR : RulAt w S nS s A nA rA f B nB rB g) :
    Calls Try.prog 14 #[.agg #[.slice S nS cS, .slice A nA cA, .slice B nB cB]] w fun e w' => e = .returned (.bool (rulB nS s nA rA f nB rB g)) ∧ Keeps w w' := by
  have hb := Blk.new w #[.slice S nS cS, .slice A nA cA, .slice B nB cB] 26
  have kb := Keeps.alloc w (.cells #[.slice S nS cS, .slice A nA cA, .slice B nB cB] 26)
  have HR := Lib.hid (hR.keeps kb)
  have hbS := hR.bS
  have hbA := hR.bA
  have hbB := hR.bB
  clear hR
  have HV : Hid (rulB nS s nA rA f nB rB g = (((inB nS 1 4 && !anyB (fun i => !bitB (s i)) nS) && sqB nA rA f nS) && sqB nB rB g nS)) := Lib.hid rfl
  generalize rulB nS s nA rA f nB rB g = V at *
  obtain ⟨w0, hw0⟩ : ∃ w0, w0 = w.alloc (.cells #[.slice S nS cS, .slice A nA cA, .slice B nB cB] 26) := ⟨_, rfl⟩
  have HB : Hid (∀ w', Keeps w0 w' → w'.cell? ⟨w.heap.size, 0, none⟩ = some (.slice S nS cS) ∧ w'.cell? ⟨w.heap.size, 1, none⟩ = some (.slice A nA cA) ∧ w'.cell? ⟨w.heap.size, 2, none⟩ = some (.slice B nB cB)) := Lib.hid (fun w' hk => by
    rw [← hw0] at hb
    have h := hb.keeps hk
    exact ⟨h.cell 0, h.cell 1, h.cell 2⟩)
  rw [← hw0] at HR kb
  have HK := Lib.hid kb
  clear hb kb
  cases h1 : inB nS 1 4
  · have HVF : Hid (false = V) := Lib.hid (by rw [HV.out, h1]; rfl)
    have H1 := Lib.hid h1
    clear h1 HV
    rw [hw0] at HK
    go_enter Try.func14, Try.ntmps14
    go_wp2_with fail
    refine (within_any _ _ _ _).mono ?_
    rintro e w1 ⟨rfl, rfl⟩
    rw [H1.out]
    go_wp2_with fail
    go_ret
    exact ⟨ret_bool HVF.out, HK.out⟩
  · have HV1 : Hid (V = ((!anyB (fun i => !bitB (s i)) nS && sqB nA rA f nS) && sqB nB rB g nS)) := Lib.hid (by rw [HV.out, h1]; rfl)
    have H1 := Lib.hid h1
    clear h1 HV
    go_enter Try.func14, Try.ntmps14
    go_wp2_with fail
    refine (within_any _ _ _ _).mono ?_
    rintro e w1 ⟨rfl, rfl⟩
    rw [H1.out, ← hw0]
    obtain ⟨d0, d1, d2⟩ := HB.out _ (Keeps.refl w0)
    clear hw0
    go_wp2_with fail
    refine (intcontains_any 44 #[] S nS cS s (fun i => !bitB (s i)) _ hbS HR.out.says (fun _ _ => rfl) (fun j w' _ hk => vr1_any (s j) w')).mono ?_
    rintro e w1 ⟨rfl, hk1⟩
    have HK1 := Lib.hid hk1
    obtain ⟨e0, e1, e2⟩ := HB.out _ hk1
    clear hk1 d0 d1 d2
    cases h2 : anyB (fun i => !bitB (s i)) nS
    · have HV2 : Hid (V = (sqB nA rA f nS && sqB nB rB g nS)) := Lib.hid (by rw [HV1.out, h2]; rfl)
      clear h2 HV1
      go_wp2_with fail
      refine (square_any A nA cA nS rA f w1 hbA hbS ((HR.out.keeps HK1.out).first) HR.out.lA).mono ?_
      rintro e w2 ⟨rfl, hk2⟩
      have HK2 := Lib.hid (HK1.out.step hk2)
      obtain ⟨c0, c1, c2⟩ := HB.out _ HK2.out
      clear hk2 e0 e1 e2
      cases h3 : sqB nA rA f nS
      · have HV3 : Hid (false = V) := Lib.hid (by rw [HV2.out, h3]; rfl)
        clear h3 HV2
        go_wp2_with fail
        go_ret
        exact ⟨ret_bool HV3.out, HK.out.step HK2.out⟩
      · have HV3 : Hid (sqB nB rB g nS = V) := Lib.hid (by rw [HV2.out, h3]; rfl)
        clear h3 HV2
        go_wp2_with fail
        refine (square_any B nB cB nS rB g w2 hbB hbS ((HR.out.keeps HK2.out).second) HR.out.lB).mono ?_
        rintro e w3 ⟨rfl, hk3⟩
        have HK3 := Lib.hid (HK2.out.step hk3)
        clear hk3
        go_wp2_with fail
        go_ret
        exact ⟨ret_bool HV3.out, HK.out.step HK3.out⟩
    · have HV2 : Hid (false = V) := Lib.hid (by rw [HV1.out, h2]; rfl)
      clear h2 HV1
      go_wp2_with fail
      go_ret
      exact ⟨ret_bool HV2.out, HK.out.step HK1.out⟩
end Go.Proofs.Ytaejakejnllimaa
