/-
  Rules of crowds in memory, and impl.ValidRules and impl.crowdOk. Conditions: lengths at most 2^40.
-/
import Derived.Test.YtlniogfinofakaaGreatDoorRuAu
import Derived.Test.YtlniogfinofakaaGreatDoorRuAb
import Derived.Test.YtlniogfinofakaaGreatDoorRuAd
namespace Go.Proofs.YtlniogfinofakaaGreatDoor
set_option maxRecDepth 100000
set_option maxRecDepth 100000
set_option linter.unusedVariables false
open Go.RowKit

/-- Rules in memory: what kinds say, and the two tables. -/
structure RulAt (w : World) (S : Option Addr) (nS : Nat) (s : Nat → Int) (A : Option Addr) (nA : Nat) (rA : Nat → Option Addr × Nat × Nat) (f : Nat → Nat → Int) (B : Option Addr) (nB : Nat) (rB : Nat → Option Addr × Nat × Nat) (g : Nat → Nat → Int) : Prop where
  says : Ints w S nS s
  first : Rows w A nA rA f
  second : Rows w B nB rB g
  bS : nS ≤ 1099511627776
  bA : nA ≤ 1099511627776
  bB : nB ≤ 1099511627776
  lA : ∀ i, i < nA → (rA i).2.1 ≤ 1099511627776
  lB : ∀ i, i < nB → (rB i).2.1 ≤ 1099511627776
def bitB (x : Int) : Bool := x == 0 || x == 1
def sqB (n : Nat) (r : Nat → Option Addr × Nat × Nat) (f : Nat → Nat → Int) (k : Nat) : Bool :=
  decide (n = k) && !anyB (fun i => !decide ((r i).2.1 = k) || anyB (fun j => !inB (f i j) 0 ((k : Int) - 1)) (r i).2.1) n
def rulB (nS : Nat) (s : Nat → Int) (nA : Nat) (rA : Nat → Option Addr × Nat × Nat) (f : Nat → Nat → Int) (nB : Nat) (rB : Nat → Option Addr × Nat × Nat) (g : Nat → Nat → Int) : Bool :=
  ((inB nS 1 4 && !anyB (fun i => !bitB (s i)) nS) && sqB nA rA f nS) && sqB nB rB g nS
section
variable {w w' : World} {S A B : Option Addr} {nS nA nB : Nat} {s : Nat → Int} {rA rB : Nat → Option Addr × Nat × Nat} {f g : Nat → Nat → Int}
theorem RulAt.keeps (h : RulAt w S nS s A nA rA f B nB rB g) (k : Keeps w w') : RulAt w' S nS s A nA rA f B nB rB g :=
  ⟨h.says.keeps k, h.first.keeps k, h.second.keeps k, h.bS, h.bA, h.bB, h.lA, h.lB⟩
theorem sqB_iff {n k : Nat} {r : Nat → Option Addr × Nat × Nat} {f : Nat → Nat → Int} : sqB n r f k = true ↔ n = k ∧ ∀ i, i < k → (r i).2.1 = k ∧ ∀ j, j < k → 0 ≤ f i j ∧ f i j ≤ (k : Int) - 1 := by
  unfold sqB
  simp only [Bool.and_eq_true, decide_eq_true_eq, Bool.not_eq_true']
  rw [anyB_false]
  constructor
  · rintro ⟨rfl, h⟩
    refine ⟨rfl, fun i hi => ?_⟩
    have := h i hi
    simp only [Bool.or_eq_false_iff, Bool.not_eq_false', decide_eq_true_eq] at this
    refine ⟨this.1, fun j hj => ?_⟩
    have h2 := this.2
    rw [this.1, anyB_false] at h2
    exact inB_true (by simpa using h2 j hj)
  · rintro ⟨rfl, h⟩
    refine ⟨rfl, fun i hi => ?_⟩
    obtain ⟨h1, h2⟩ := h i hi
    simp only [Bool.or_eq_false_iff, Bool.not_eq_false', decide_eq_true_eq]
    refine ⟨h1, ?_⟩
    rw [h1, anyB_false]
    intro j hj
    obtain ⟨h3, h4⟩ := h2 j hj
    rw [inB_mk h3 h4]; rfl
theorem bitB_iff {x : Int} : bitB x = true ↔ x = 0 ∨ x = 1 := by unfold bitB; simp
theorem rulB_iff : rulB nS s nA rA f nB rB g = true ↔ (1 ≤ nS ∧ nS ≤ 4) ∧ nA = nS ∧ nB = nS ∧ ∀ a, a < nS → (s a = 0 ∨ s a = 1) ∧ (rA a).2.1 = nS ∧ (rB a).2.1 = nS ∧ ∀ b, b < nS → (0 ≤ f a b ∧ f a b ≤ (nS : Int) - 1) ∧ (0 ≤ g a b ∧ g a b ≤ (nS : Int) - 1) := by
  unfold rulB
  simp only [Bool.and_eq_true, Bool.not_eq_true']
  rw [sqB_iff, sqB_iff, anyB_false]
  constructor
  · rintro ⟨⟨⟨h1, h2⟩, h3, h4⟩, h5, h6⟩
    have h1 := inB_true h1
    refine ⟨by omega, h3, h5, fun a ha => ⟨bitB_iff.1 (by simpa using h2 a ha), (h4 a ha).1, (h6 a ha).1, fun b hb => ⟨(h4 a ha).2 b hb, (h6 a ha).2 b hb⟩⟩⟩
  · rintro ⟨h1, h2, h3, h4⟩
    refine ⟨⟨⟨inB_mk (by omega) (by omega), fun i hi => ?_⟩, h2, fun i hi => ⟨(h4 i hi).2.1, fun j hj => ((h4 i hi).2.2.2 j hj).1⟩⟩, h3, fun i hi => ⟨(h4 i hi).2.2.1, fun j hj => ((h4 i hi).2.2.2 j hj).2⟩⟩
    rw [bitB_iff.2 (h4 i hi).1]; rfl
end
theorem bitOk_any (x : Int) (w : World) : Calls Tryz.prog 129 #[.int .i64 x] w fun e w' => e = .returned (.bool (bitB x)) ∧ w = w' := by
  by_cases h0 : x = 0
  · subst h0
    go_enter Tryz.func129, Tryz.ntmps129
    go_wp2
    go_ret
    exact ⟨rfl, rfl⟩
  · have h0' : (x == 0) = false := by simp [h0]
    have HV : Hid ((x == 1) = bitB x) := Lib.hid (by unfold bitB; rw [h0']; rfl)
    generalize bitB x = V at *
    cases h1 : (x == 1)
    · rw [h1] at HV
      go_enter Tryz.func129, Tryz.ntmps129
      go_wp2
      go_ret
      exact ⟨ret_bool HV.out, rfl⟩
    · rw [h1] at HV
      go_enter Tryz.func129, Tryz.ntmps129
      go_wp2
      go_ret
      exact ⟨ret_bool HV.out, rfl⟩
theorem vr1_any (x : Int) (w : World) : Calls Tryz.prog 128 #[.int .i64 x] w fun e w' => e = .returned (.bool (!bitB x)) ∧ Keeps w w' := by
  go_enter Tryz.func128, Tryz.ntmps128
  go_wp2_with fail
  refine (bitOk_any _ _).mono ?_
  rintro e w1 ⟨rfl, rfl⟩
  go_wp2_with fail
  go_ret
  exact ⟨rfl, Keeps.refl _⟩
theorem sq2_any (b : Nat) (x k km : Int) (w : World) (hkm : wrap64 (k - 1) = km) (hc : w.cell? ⟨b, 0, none⟩ = some (.int .i64 k)) :
    Calls Tryz.prog 155 #[.int .i64 x, .pointer (some ⟨b, 0, none⟩)] w fun e w' => e = .returned (.bool (!inB x 0 km)) ∧ Keeps w w' := by
  have HKM := Lib.hid hkm
  go_enter Tryz.func155, Tryz.ntmps155
  go_wp2_with fail
  refine (within_any _ _ _ _).mono ?_
  rintro e w1 ⟨rfl, rfl⟩
  go_wp2_with fail
  go_ret
  exact ⟨rfl, Keeps.refl _⟩
theorem sq1_any (b : Nat) (a : Option Addr) (n c k : Nat) (x : Nat → Int) (w : World) (hn : n ≤ 1099511627776) (hk : k ≤ 1099511627776) (hI : Ints w a n x) (hc : w.cell? ⟨b, 0, none⟩ = some (.int .i64 k)) :
    Calls Tryz.prog 154 #[.slice a n c, .pointer (some ⟨b, 0, none⟩)] w fun e w' => e = .returned (.bool (!decide (n = k) || anyB (fun j => !inB (x j) 0 ((k : Int) - 1)) n)) ∧ Keeps w w' := by
  have hmf : ∀ (fn : Fn) (first cap : Array Value) (w : World), (Instr.makeFunc fn first cap).run Tryz.prog w = .ok (.func fn first cap) w := fun _ _ _ _ => rfl
  have HI := Lib.hid hI
  have HC := Lib.hid hc
  by_cases hnk : n = k
  · subst hnk
    have HV : Hid (anyB (fun j => !inB (x j) 0 ((n : Int) - 1)) n = (!decide (n = n) || anyB (fun j => !inB (x j) 0 ((n : Int) - 1)) n)) := Lib.hid (by simp)
    have hne : ((n : Int) != (n : Int)) = false := by simp
    clear hI
    go_enter Tryz.func154, Tryz.ntmps154
    go_wp2_with fail
    refine (intcontains_any 155 #[.pointer (some ⟨b, 0, none⟩)] a n c x (fun j => !inB (x j) 0 ((n : Int) - 1)) _ hn HI.out (fun _ _ => rfl) (fun j w' _ hk => sq2_any b (x j) n _ w' (by unfold wrap64; omega) (cell_keeps hk HC.out))).mono ?_
    rintro e w1 ⟨rfl, hk1⟩
    have HK1 := Lib.hid hk1
    clear hk1
    go_wp2_with fail
    go_ret
    exact ⟨ret_bool HV.out, HK1.out⟩
  · have HV : Hid (true = (!decide (n = k) || anyB (fun j => !inB (x j) 0 ((k : Int) - 1)) n)) := Lib.hid (by simp [hnk])
    have hne : ((n : Int) != (k : Int)) = true := by simp; omega
    clear hI hnk
    go_enter Tryz.func154, Tryz.ntmps154
    go_wp2_with fail
    go_ret
    exact ⟨ret_bool HV.out, Keeps.refl _⟩
theorem square_any (a : Option Addr) (n c k : Nat) (r : Nat → Option Addr × Nat × Nat) (f : Nat → Nat → Int) (w : World) (hn : n ≤ 1099511627776) (hk : k ≤ 1099511627776) (hI : Rows w a n r f) (hl : ∀ i, i < n → (r i).2.1 ≤ 1099511627776) :
    Calls Tryz.prog 130 #[.slice a n c, .int .i64 k] w fun e w' => e = .returned (.bool (sqB n r f k)) ∧ Keeps w w' := by
  have hmf : ∀ (fn : Fn) (first cap : Array Value) (w : World), (Instr.makeFunc fn first cap).run Tryz.prog w = .ok (.func fn first cap) w := fun _ _ _ _ => rfl
  have HK0 : Hid (Keeps w (w.alloc (.cells #[.int .i64 k] 3))) := Lib.hid (Keeps.alloc w _)
  have HI := Lib.hid (hI.keeps HK0.out)
  have HL := Lib.hid hl
  have HC : Hid ((w.alloc (.cells #[.int .i64 k] 3)).cell? ⟨w.heap.size, 0, none⟩ = some (.int .i64 k)) := Lib.hid (by simp)
  clear hI hl
  by_cases hnk : n = k
  · subst hnk
    have HV : Hid ((!anyB (fun i => !decide ((r i).2.1 = n) || anyB (fun j => !inB (f i j) 0 ((n : Int) - 1)) (r i).2.1) n) = sqB n r f n) := Lib.hid (by unfold sqB; simp)
    go_enter Tryz.func130, Tryz.ntmps130
    go_wp2_with fail
    refine (rowcontains_any 154 #[.pointer (some ⟨w.heap.size, 0, none⟩)] a n c r f (fun i => !decide ((r i).2.1 = n) || anyB (fun j => !inB (f i j) 0 ((n : Int) - 1)) (r i).2.1) _ hn HI.out (fun _ _ => rfl) (fun i w' hi hk => sq1_any w.heap.size _ _ _ n (f i) w' (HL.out i hi) hn ((HI.out i hi).2.keeps hk) (cell_keeps hk HC.out))).mono ?_
    rintro e w1 ⟨rfl, hk1⟩
    have HK1 := Lib.hid (HK0.out.step hk1)
    clear hk1
    go_wp2_with fail
    go_ret
    exact ⟨ret_bool HV.out, HK1.out⟩
  · have HV : Hid (false = sqB n r f k) := Lib.hid (by unfold sqB; simp [hnk])
    have hne : ((n : Int) == (k : Int)) = false := by simp; omega
    clear hnk
    go_enter Tryz.func130, Tryz.ntmps130
    go_wp2_with fail
    go_ret
    exact ⟨ret_bool HV.out, HK0.out⟩
set_option maxHeartbeats 1000000 in
theorem validRules_any (S A B : Option Addr) (nS cS nA cA nB cB : Nat) (s : Nat → Int) (rA rB : Nat → Option Addr × Nat × Nat) (f g : Nat → Nat → Int) (w : World) (hR : RulAt w S nS s A nA rA f B nB rB g) :
    Calls Tryz.prog 100 #[.agg #[.slice S nS cS, .slice A nA cA, .slice B nB cB]] w fun e w' => e = .returned (.bool (rulB nS s nA rA f nB rB g)) ∧ Keeps w w' := by
  have hb := Blk.new w #[.slice S nS cS, .slice A nA cA, .slice B nB cB] 54
  have kb := Keeps.alloc w (.cells #[.slice S nS cS, .slice A nA cA, .slice B nB cB] 54)
  have HR := Lib.hid (hR.keeps kb)
  have hbS := hR.bS
  have hbA := hR.bA
  have hbB := hR.bB
  clear hR
  have HV : Hid (rulB nS s nA rA f nB rB g = (((inB nS 1 4 && !anyB (fun i => !bitB (s i)) nS) && sqB nA rA f nS) && sqB nB rB g nS)) := Lib.hid rfl
  generalize rulB nS s nA rA f nB rB g = V at *
  obtain ⟨w0, hw0⟩ : ∃ w0, w0 = w.alloc (.cells #[.slice S nS cS, .slice A nA cA, .slice B nB cB] 54) := ⟨_, rfl⟩
  have HB : Hid (∀ w', Keeps w0 w' → w'.cell? ⟨w.heap.size, 0, none⟩ = some (.slice S nS cS) ∧ w'.cell? ⟨w.heap.size, 1, none⟩ = some (.slice A nA cA) ∧ w'.cell? ⟨w.heap.size, 2, none⟩ = some (.slice B nB cB)) := Lib.hid (fun w' hk => by
    rw [← hw0] at hb
    have h := hb.keeps hk
    exact ⟨h.cell 0, h.cell 1, h.cell 2⟩)
  rw [← hw0] at HR kb
  have HK := Lib.hid kb
  clear hb kb
  cases h1 : inB nS 1 4
  · have HVF : Hid (false = V) := Lib.hid (by rw [HV.out, h1]; rfl)
    have H1 := Lib.hid h1
    clear h1 HV
    rw [hw0] at HK
    go_enter Tryz.func100, Tryz.ntmps100
    go_wp2_with fail
    refine (within_any _ _ _ _).mono ?_
    rintro e w1 ⟨rfl, rfl⟩
    rw [H1.out]
    go_wp2_with fail
    go_ret
    exact ⟨ret_bool HVF.out, HK.out⟩
  · have HV1 : Hid (V = ((!anyB (fun i => !bitB (s i)) nS && sqB nA rA f nS) && sqB nB rB g nS)) := Lib.hid (by rw [HV.out, h1]; rfl)
    have H1 := Lib.hid h1
    clear h1 HV
    go_enter Tryz.func100, Tryz.ntmps100
    go_wp2_with fail
    refine (within_any _ _ _ _).mono ?_
    rintro e w1 ⟨rfl, rfl⟩
    rw [H1.out, ← hw0]
    obtain ⟨d0, d1, d2⟩ := HB.out _ (Keeps.refl w0)
    clear hw0
    go_wp2_with fail
    refine (intcontains_any 128 #[] S nS cS s (fun i => !bitB (s i)) _ hbS HR.out.says (fun _ _ => rfl) (fun j w' _ hk => vr1_any (s j) w')).mono ?_
    rintro e w1 ⟨rfl, hk1⟩
    have HK1 := Lib.hid hk1
    obtain ⟨e0, e1, e2⟩ := HB.out _ hk1
    clear hk1 d0 d1 d2
    cases h2 : anyB (fun i => !bitB (s i)) nS
    · have HV2 : Hid (V = (sqB nA rA f nS && sqB nB rB g nS)) := Lib.hid (by rw [HV1.out, h2]; rfl)
      clear h2 HV1
      go_wp2_with fail
      refine (square_any A nA cA nS rA f w1 hbA hbS ((HR.out.keeps HK1.out).first) HR.out.lA).mono ?_
      rintro e w2 ⟨rfl, hk2⟩
      have HK2 := Lib.hid (HK1.out.step hk2)
      obtain ⟨c0, c1, c2⟩ := HB.out _ HK2.out
      clear hk2 e0 e1 e2
      cases h3 : sqB nA rA f nS
      · have HV3 : Hid (false = V) := Lib.hid (by rw [HV2.out, h3]; rfl)
        clear h3 HV2
        go_wp2_with fail
        go_ret
        exact ⟨ret_bool HV3.out, HK.out.step HK2.out⟩
      · have HV3 : Hid (sqB nB rB g nS = V) := Lib.hid (by rw [HV2.out, h3]; rfl)
        clear h3 HV2
        go_wp2_with fail
        refine (square_any B nB cB nS rB g w2 hbB hbS ((HR.out.keeps HK2.out).second) HR.out.lB).mono ?_
        rintro e w3 ⟨rfl, hk3⟩
        have HK3 := Lib.hid (HK2.out.step hk3)
        clear hk3
        go_wp2_with fail
        go_ret
        exact ⟨ret_bool HV3.out, HK.out.step HK3.out⟩
    · have HV2 : Hid (false = V) := Lib.hid (by rw [HV1.out, h2]; rfl)
      clear h2 HV1
      go_wp2_with fail
      go_ret
      exact ⟨ret_bool HV2.out, HK.out.step HK1.out⟩
end Go.Proofs.YtlniogfinofakaaGreatDoor
/-
  impl.crowdOk, and the reference's validRules and validCrowd. Conditions: lengths at most 2^40.
-/
namespace Go.Proofs.YtlniogfinofakaaGreatDoor
set_option maxRecDepth 100000
set_option maxRecDepth 100000
set_option linter.unusedVariables false
open Go.RowKit

def crwB (n : Nat) (l : List Int) : Bool := (decide (l.length = n) && !anyB (fun i => !inB (l.getD i 0) 0 5) l.length) && decide (l.sum ≤ 5)
theorem crwB_iff {n : Nat} {l : List Int} : crwB n l = true ↔ Crw n l := by
  unfold crwB
  simp only [Bool.and_eq_true, Bool.not_eq_true', decide_eq_true_eq]
  rw [anyB_false]
  constructor
  · rintro ⟨⟨h1, h2⟩, h3⟩
    refine ⟨h1, pos_of_getD fun j hj => ?_, h3⟩
    exact (inB_true (by simpa using h2 j hj)).1
  · intro h
    refine ⟨⟨h.len, fun i hi => ?_⟩, h.sum⟩
    obtain ⟨h1, h2⟩ := h.at i (by rw [← h.len]; exact hi)
    rw [inB_mk h1 h2]; rfl
theorem take_sum (l : List Int) (j : Nat) (hj : j < l.length) : (l.take (j + 1)).sum = (l.take j).sum + l.getD j 0 := by
  rw [List.take_add_one, List.getElem?_eq_getElem hj, List.getD_eq_getElem?_getD, List.getElem?_eq_getElem hj, List.sum_append]
  simp
theorem sum_bd (l : List Int) : ∀ j, j ≤ l.length → (∀ i, i < j → 0 ≤ l.getD i 0 ∧ l.getD i 0 ≤ 5) → 0 ≤ (l.take j).sum ∧ (l.take j).sum ≤ 5 * (j : Int)
  | 0, _, _ => by simp
  | j + 1, h, hb => by
    have ih := sum_bd l j (by omega) (fun i hi => hb i (by omega))
    have := hb j (by omega)
    rw [take_sum l j (by omega)]
    omega
set_option maxHeartbeats 1000000 in
theorem crowdOk_any (S A B C : Option Addr) (nS cS nA cA nB cB cC : Nat) (s : Nat → Int) (rA rB : Nat → Option Addr × Nat × Nat) (f g : Nat → Nat → Int) (l : List Int) (w : World) (hR : RulAt w S nS s A nA rA f B nB rB g) (hC : Ints w C l.length (fun i => l.getD i 0)) (hl : l.length ≤ 1099511627776) :
    Calls Tryz.prog 68 #[.agg #[.slice S nS cS, .slice A nA cA, .slice B nB cB], .slice C l.length cC] w fun e w' => e = .returned (.bool (rulB nS s nA rA f nB rB g && crwB nS l)) ∧ Keeps w w' := by
  have hb := Blk.new w #[.slice S nS cS, .slice A nA cA, .slice B nB cB] 54
  have kb := Keeps.alloc w (.cells #[.slice S nS cS, .slice A nA cA, .slice B nB cB] 54)
  have HR := Lib.hid (hR.keeps kb)
  have HC := Lib.hid (hC.keeps kb)
  have hbS := hR.bS
  have HRI := Lib.hid (rulB_iff (nS := nS) (s := s) (nA := nA) (rA := rA) (f := f) (nB := nB) (rB := rB) (g := g))
  clear hR hC
  obtain ⟨w0, hw0⟩ : ∃ w0, w0 = w.alloc (.cells #[.slice S nS cS, .slice A nA cA, .slice B nB cB] 54) := ⟨_, rfl⟩
  have HB : Hid (∀ w', Keeps w0 w' → w'.cell? ⟨w.heap.size, 0, none⟩ = some (.slice S nS cS) ∧ w'.cell? ⟨w.heap.size, 1, none⟩ = some (.slice A nA cA) ∧ w'.cell? ⟨w.heap.size, 2, none⟩ = some (.slice B nB cB)) := Lib.hid (fun w' hk => by
    rw [← hw0] at hb
    have h := hb.keeps hk
    exact ⟨h.cell 0, h.cell 1, h.cell 2⟩)
  rw [← hw0] at HR HC kb
  have HK := Lib.hid kb
  clear hb kb
  have CV := Lib.hid (fun (w' : World) (hk : Keeps w0 w') => validRules_any S A B nS cS nA cA nB cB s rA rB f g w' (HR.out.keeps hk))
  generalize rulB nS s nA rA f nB rB g = V at *
  go_enter Tryz.func68, Tryz.ntmps68
  go_wp2_with fail
  rw [← hw0]
  clear hw0
  refine (CV.out _ (Keeps.refl w0)).mono ?_
  rintro e w1 ⟨rfl, hk1⟩
  have HK1 := Lib.hid hk1
  obtain ⟨d0, d1, d2⟩ := HB.out _ hk1
  clear hk1
  cases V
  · go_wp2_with fail
    go_ret
    exact ⟨rfl, HK.out.step HK1.out⟩
  · have H4 : Hid (nS ≤ 4) := Lib.hid (HRI.out.1 rfl).1.2
    clear HRI CV
    by_cases hn : l.length = nS
    · have hnb : ((l.length : Int) != (nS : Int)) = false := by simp; omega
      have hn4 : l.length ≤ 4 := by have := H4.out; omega
      have HN := Lib.hid hn
      have HCI := Lib.hid (crwB_iff (n := nS) (l := l))
      have HTS := Lib.hid (take_sum l)
      have HSB := Lib.hid (sum_bd l)
      have HTL : Hid ((l.take l.length).sum = l.sum) := Lib.hid (by rw [List.take_length])
      have HT0 : Hid ((l.take 0).sum = 0) := Lib.hid (by simp)
      obtain ⟨K, hKK⟩ : ∃ K, K = crwB nS l := ⟨_, rfl⟩
      rw [← hKK] at HCI
      have HKK : Hid (K = (true && crwB nS l)) := Lib.hid (by rw [hKK]; rfl)
      clear hKK
      generalize hLn : l.length = n at *
      obtain ⟨x, hx⟩ : ∃ x : Nat → Int, x = fun i => l.getD i 0 := ⟨_, rfl⟩
      have hx' : ∀ i, l.getD i 0 = x i := fun i => by rw [hx]
      obtain ⟨T, hT⟩ : ∃ T : Nat → Int, T = fun i => (l.take i).sum := ⟨_, rfl⟩
      have HTS2 : Hid (∀ j, j < n → T (j + 1) = T j + x j) := Lib.hid (fun j hj => by rw [hT, hx]; exact HTS.out j hj)
      have HSB2 : Hid (∀ j, j ≤ n → (∀ i, i < j → 0 ≤ x i ∧ x i ≤ 5) → 0 ≤ T j ∧ T j ≤ 5 * (j : Int)) := Lib.hid (by rw [hT, hx]; exact HSB.out)
      have HT02 : Hid (T 0 = 0) := Lib.hid (by rw [hT]; exact HT0.out)
      have HKT : Hid ((∀ i, i < n → 0 ≤ x i ∧ x i ≤ 5) → (K = true ↔ T n ≤ 5)) := Lib.hid (fun h => by
        rw [hT]
        dsimp only
        rw [HTL.out, HCI.out]
        exact ⟨fun h2 => h2.sum, fun h2 => ⟨by rw [hLn, HN.out], pos_of_getD (fun j hj => by rw [hx']; exact (h j (by omega)).1), h2⟩⟩)
      have HKF : Hid (∀ i, i < n → inB (x i) 0 5 = false → K = false) := Lib.hid (fun i hi h => by
        cases hK : K
        · rfl
        · have h2 := (HCI.out.1 hK).at i (by omega)
          rw [hx', ] at h2
          rw [inB_mk h2.1 h2.2] at h
          cases h)
      rw [← hx] at HC
      clear HTS HSB HTL HT0 HCI hx hx' hT hn hLn
      go_wp2_with fail
      go_loopw [21, 5] (fun i v wr => ∃ j : Nat, j ≤ n ∧ i = .int .i64 j ∧ v = .int .i64 (T j) ∧ Hid (∀ i, i < j → 0 ≤ x i ∧ x i ≤ 5) ∧ w1 = wr) (fun i _ _ => n - (intOf i).toNat)
      case atStart => exact ⟨0, by omega, rfl, by rw [HT02.out], Lib.hid (fun i hi => absurd hi (Nat.not_lt_zero _)), rfl⟩
      case round =>
        obtain ⟨j, hj, rfl, rfl, HA, rfl⟩ := hrel
        by_cases hlt : j < n
        · have hji : (j : Int) < n := by omega
          obtain ⟨d, off, rfl, hcx⟩ := HC.out.keeps HK1.out j hlt
          cases hin : inB (x j) 0 5
          · have HF := Lib.hid (HKF.out j hlt hin)
            have HIN := Lib.hid hin
            clear hin
            go_wp2_with fail
            refine (within_any _ _ _ _).mono ?_
            rintro e w2 ⟨rfl, rfl⟩
            rw [HIN.out]
            go_wp2_with fail
            go_ret
            exact ⟨ret_bool (HF.out.symm.trans HKK.out), HK.out.step HK1.out⟩
          · have hb := inB_true hin
            have hsb := HSB2.out j hj HA.out
            have HIN := Lib.hid hin
            have HX := Lib.hid hb
            have hw : wrap64 (T j + x j) = T (j + 1) := by rw [HTS2.out j hlt]; unfold wrap64; omega
            clear hin
            go_wp2_with fail
            refine (within_any _ _ _ _).mono ?_
            rintro e w2 ⟨rfl, rfl⟩
            rw [HIN.out]
            go_wp2_with fail
            go_roundw
            case rel =>
              refine ⟨j + 1, by omega, by go_num, by rw [HTS2.out j hlt], Lib.hid (fun i hi => ?_), trivial⟩
              by_cases e : i = j
              · rw [e]; exact HX.out
              · exact HA.out i (by omega)
            case measure => simp [intOf]; omega
        · obtain rfl : j = n := by omega
          have hKT := HKT.out HA.out
          have hsb := HSB2.out j (Nat.le_refl _) HA.out
          by_cases h5 : T j ≤ 5
          · have HF := Lib.hid (hKT.2 h5)
            clear hKT
            go_wp2_with fail
            go_ret
            exact ⟨ret_bool (HF.out.symm.trans HKK.out), HK.out.step HK1.out⟩
          · have HF : Hid (K = false) := Lib.hid (by
              cases hK : K
              · rfl
              · exact absurd (hKT.1 hK) h5)
            clear hKT
            go_wp2_with fail
            go_ret
            exact ⟨ret_bool (HF.out.symm.trans HKK.out), HK.out.step HK1.out⟩
    · have hnb : ((l.length : Int) != (nS : Int)) = true := by simp; omega
      have HV : Hid (false = crwB nS l) := Lib.hid (by unfold crwB; simp [hn])
      clear hn
      go_wp2_with fail
      go_ret
      exact ⟨ret_bool HV.out, HK.out.step HK1.out⟩
set_option maxHeartbeats 1000000 in
theorem validCrowd_any (S A B C : Option Addr) (nS cS nA cA nB cB cC : Nat) (l : List Int) (w : World) (hbS : nS ≤ 1099511627776) (hC : Ints w C l.length (fun i => l.getD i 0)) (hl : l.length ≤ 1099511627776) :
    Calls Tryz.prog 35 #[.agg #[.slice S nS cS, .slice A nA cA, .slice B nB cB], .slice C l.length cC] w fun e w' => e = .returned (.bool (crwB nS l)) ∧ Keeps w w' := by
  have hb := Blk.new w #[.slice S nS cS, .slice A nA cA, .slice B nB cB] 54
  have kb := Keeps.alloc w (.cells #[.slice S nS cS, .slice A nA cA, .slice B nB cB] 54)
  have HC := Lib.hid (hC.keeps kb)
  have HK := Lib.hid kb
  have d0 : (w.alloc (.cells #[.slice S nS cS, .slice A nA cA, .slice B nB cB] 54)).cell? ⟨w.heap.size, 0, none⟩ = some (.slice S nS cS) := hb.cell 0
  clear hC kb hb
  have HCI := Lib.hid (crwB_iff (n := nS) (l := l))
  have HTS := Lib.hid (take_sum l)
  have HSB := Lib.hid (sum_bd l)
  have HTL : Hid ((l.take l.length).sum = l.sum) := Lib.hid (by rw [List.take_length])
  have HT0 : Hid ((l.take 0).sum = 0) := Lib.hid (by simp)
  obtain ⟨K, hKK⟩ : ∃ K, K = crwB nS l := ⟨_, rfl⟩
  rw [← hKK] at HCI
  have HKK := Lib.hid hKK
  clear hKK
  obtain ⟨n, hLn⟩ : ∃ n, n = l.length := ⟨_, rfl⟩
  rw [← hLn] at HTS HSB HTL HC hl ⊢
  obtain ⟨x, hx⟩ : ∃ x : Nat → Int, x = fun i => l.getD i 0 := ⟨_, rfl⟩
  have hx' : ∀ i, l.getD i 0 = x i := fun i => by rw [hx]
  obtain ⟨T, hT⟩ : ∃ T : Nat → Int, T = fun i => (l.take i).sum := ⟨_, rfl⟩
  have HTS2 : Hid (∀ j, j < n → T (j + 1) = T j + x j) := Lib.hid (fun j hj => by rw [hT, hx]; exact HTS.out j hj)
  have HSB2 : Hid (∀ j, j ≤ n → (∀ i, i < j → 0 ≤ x i ∧ x i ≤ 5) → 0 ≤ T j ∧ T j ≤ 5 * (j : Int)) := Lib.hid (by rw [hT, hx]; exact HSB.out)
  have HT02 : Hid (T 0 = 0) := Lib.hid (by rw [hT]; exact HT0.out)
  have HKT : Hid ((∀ i, i < n → 0 ≤ x i ∧ x i ≤ 5) → n = nS → (K = true ↔ T n ≤ 5)) := Lib.hid (fun h hn => by
    rw [hT]
    dsimp only
    rw [HTL.out, HCI.out]
    exact ⟨fun h2 => h2.sum, fun h2 => ⟨by rw [← hLn, hn], pos_of_getD (fun j hj => by rw [hx']; exact (h j (by omega)).1), h2⟩⟩)
  have HKN : Hid (n ≠ nS → K = false) := Lib.hid (fun hn => by
    cases hK : K
    · rfl
    · exact absurd (hLn.trans (HCI.out.1 hK).len) hn)
  have HKF : Hid (∀ i, i < n → inB (x i) 0 5 = false → K = false) := Lib.hid (fun i hi h => by
    cases hK : K
    · rfl
    · have hc := HCI.out.1 hK
      have h2 := hc.le _ (mem_getD (l := l) (i := i) (by omega))
      rw [hx'] at h2
      rw [inB_mk h2.1 h2.2] at h
      cases h)
  rw [← hx] at HC
  clear HTS HSB HTL HT0 HCI hx hx' hT hLn
  go_enter Tryz.func35, Tryz.ntmps35
  go_wp2_with fail
  go_loopw [6, 5] (fun i v wr => ∃ j : Nat, j ≤ n ∧ i = .int .i64 j ∧ v = .int .i64 (T j) ∧ Hid (∀ i, i < j → 0 ≤ x i ∧ x i ≤ 5) ∧ (w.alloc (.cells #[.slice S nS cS, .slice A nA cA, .slice B nB cB] 54)) = wr) (fun i _ _ => n - (intOf i).toNat)
  case atStart => exact ⟨0, by omega, rfl, by rw [HT02.out], Lib.hid (fun i hi => absurd hi (Nat.not_lt_zero _)), rfl⟩
  case round =>
    obtain ⟨j, hj, rfl, rfl, HA, rfl⟩ := hrel
    by_cases hlt : j < n
    · have hji : (j : Int) < n := by omega
      obtain ⟨d, off, rfl, hcx⟩ := HC.out j hlt
      cases hin : inB (x j) 0 5
      · have HF := Lib.hid (HKF.out j hlt hin)
        have HIN := Lib.hid hin
        clear hin
        go_wp2_with fail
        refine (inRange_any _ _ _ _).mono ?_
        rintro e w2 ⟨rfl, rfl⟩
        rw [HIN.out]
        go_wp2_with fail
        go_ret
        exact ⟨ret_bool (HF.out.symm.trans HKK.out), HK.out⟩
      · have hb := inB_true hin
        have hsb := HSB2.out j hj HA.out
        have HIN := Lib.hid hin
        have HX := Lib.hid hb
        have hw : wrap64 (T j + x j) = T (j + 1) := by rw [HTS2.out j hlt]; unfold wrap64; omega
        clear hin
        go_wp2_with fail
        refine (inRange_any _ _ _ _).mono ?_
        rintro e w2 ⟨rfl, rfl⟩
        rw [HIN.out]
        go_wp2_with fail
        go_roundw
        case rel =>
          refine ⟨j + 1, by omega, by go_num, by rw [HTS2.out j hlt], Lib.hid (fun i hi => ?_), trivial⟩
          by_cases e : i = j
          · rw [e]; exact HX.out
          · exact HA.out i (by omega)
        case measure => simp [intOf]; omega
    · obtain rfl : j = n := by omega
      have hsb := HSB2.out j (Nat.le_refl _) HA.out
      by_cases hn : j = nS
      · have hKT := HKT.out HA.out hn
        have hnb : ((j : Int) == (nS : Int)) = true := by simp; omega
        clear hn
        by_cases h5 : T j ≤ 5
        · have HF := Lib.hid (hKT.2 h5)
          clear hKT
          go_wp2_with fail
          go_ret
          exact ⟨ret_bool (HF.out.symm.trans HKK.out), HK.out⟩
        · have HF : Hid (K = false) := Lib.hid (by
            cases hK : K
            · rfl
            · exact absurd (hKT.1 hK) h5)
          clear hKT
          go_wp2_with fail
          go_ret
          exact ⟨ret_bool (HF.out.symm.trans HKK.out), HK.out⟩
      · have hnb : ((j : Int) == (nS : Int)) = false := by simp; omega
        have HF := Lib.hid (HKN.out hn)
        clear hn
        go_wp2_with fail
        go_ret
        exact ⟨ret_bool (HF.out.symm.trans HKK.out), HK.out⟩
set_option maxRecDepth 100000 in
set_option maxHeartbeats 4000000 in
theorem svalidRules_any (S A B : Option Addr) (nS cS nA cA nB cB : Nat) (s : Nat → Int) (rA rB : Nat → Option Addr × Nat × Nat) (f g : Nat → Nat → Int) (w : World) (hR : RulAt w S nS s A nA rA f B nB rB g) :
    Calls Tryz.prog 52 #[.agg #[.slice S nS cS, .slice A nA cA, .slice B nB cB]] w fun e w' => e = .returned (.bool (rulB nS s nA rA f nB rB g)) ∧ Keeps w w' := by
  have hb := Blk.new w #[.slice S nS cS, .slice A nA cA, .slice B nB cB] 54
  have kb := Keeps.alloc w (.cells #[.slice S nS cS, .slice A nA cA, .slice B nB cB] 54)
  have HR := Lib.hid (hR.keeps kb)
  have hbS := hR.bS
  have HK := Lib.hid kb
  have d0 : (w.alloc (.cells #[.slice S nS cS, .slice A nA cA, .slice B nB cB] 54)).cell? ⟨w.heap.size, 0, none⟩ = some (.slice S nS cS) := hb.cell 0
  have d1 : (w.alloc (.cells #[.slice S nS cS, .slice A nA cA, .slice B nB cB] 54)).cell? ⟨w.heap.size, 1, none⟩ = some (.slice A nA cA) := hb.cell 1
  have d2 : (w.alloc (.cells #[.slice S nS cS, .slice A nA cA, .slice B nB cB] 54)).cell? ⟨w.heap.size, 2, none⟩ = some (.slice B nB cB) := hb.cell 2
  clear hR kb hb
  have HRI := Lib.hid (rulB_iff (nS := nS) (s := s) (nA := nA) (rA := rA) (f := f) (nB := nB) (rB := rB) (g := g))
  obtain ⟨V, hV⟩ : ∃ V, V = rulB nS s nA rA f nB rB g := ⟨_, rfl⟩
  rw [← hV] at HRI
  have HVV := Lib.hid hV
  clear hV
  have HVF : Hid (¬ ((1 ≤ nS ∧ nS ≤ 4) ∧ nA = nS ∧ nB = nS ∧ ∀ a, a < nS → (s a = 0 ∨ s a = 1) ∧ (rA a).2.1 = nS ∧ (rB a).2.1 = nS ∧ ∀ b, b < nS → (0 ≤ f a b ∧ f a b ≤ (nS : Int) - 1) ∧ (0 ≤ g a b ∧ g a b ≤ (nS : Int) - 1)) → false = rulB nS s nA rA f nB rB g) := Lib.hid (fun h => by
    rw [← HVV.out]
    cases hV : V
    · rfl
    · exact absurd (HRI.out.1 hV) h)
  have HVT : Hid (((1 ≤ nS ∧ nS ≤ 4) ∧ nA = nS ∧ nB = nS ∧ ∀ a, a < nS → (s a = 0 ∨ s a = 1) ∧ (rA a).2.1 = nS ∧ (rB a).2.1 = nS ∧ ∀ b, b < nS → (0 ≤ f a b ∧ f a b ≤ (nS : Int) - 1) ∧ (0 ≤ g a b ∧ g a b ≤ (nS : Int) - 1)) → true = rulB nS s nA rA f nB rB g) := Lib.hid (fun h => (HRI.out.2 h).symm.trans HVV.out)
  clear HRI HVV
  cases hin : inB nS 1 4
  · have HF := Lib.hid (HVF.out (fun h => by rw [inB_mk (by omega) (by omega)] at hin; cases hin))
    have HIN := Lib.hid hin
    clear hin
    go_enter Tryz.func52, Tryz.ntmps52
    go_wp2_with fail
    refine (inRange_any _ _ _ _).mono ?_
    rintro e w2 ⟨rfl, rfl⟩
    rw [HIN.out]
    go_wp2_with fail
    go_ret
    exact ⟨ret_bool HF.out, HK.out⟩
  · have hin4 := inB_true hin
    have HIN := Lib.hid hin
    clear hin
    by_cases hA : nA = nS
    · by_cases hB : nB = nS
      · have hAb : ((nA : Int) != (nS : Int)) = false := by simp; omega
        have hBb : ((nB : Int) != (nS : Int)) = false := by simp; omega
        have HAB := Lib.hid (And.intro hA hB)
        clear hA hB
        go_enter Tryz.func52, Tryz.ntmps52
        go_wp2_with fail
        refine (inRange_any _ _ _ _).mono ?_
        rintro e w2 ⟨rfl, rfl⟩
        rw [HIN.out]
        go_wp2_with fail
        go_loopw [4] (fun i wr => ∃ j : Nat, j ≤ nS ∧ i = .int .i64 j ∧ Hid (∀ a, a < j → (s a = 0 ∨ s a = 1) ∧ (rA a).2.1 = nS ∧ (rB a).2.1 = nS ∧ ∀ b, b < nS → (0 ≤ f a b ∧ f a b ≤ (nS : Int) - 1) ∧ (0 ≤ g a b ∧ g a b ≤ (nS : Int) - 1)) ∧ (w.alloc (.cells #[.slice S nS cS, .slice A nA cA, .slice B nB cB] 54)) = wr) (fun i _ => nS - (intOf i).toNat)
        case atStart => exact ⟨0, by omega, rfl, Lib.hid (fun i hi => absurd hi (Nat.not_lt_zero _)), rfl⟩
        case round =>
          obtain ⟨j, hj, rfl, HD, rfl⟩ := hrel
          by_cases hlt : j < nS
          · have hji : (j : Int) < nS := by omega
            have hjA : (j : Int) < nA := by have := HAB.out; omega
            have hjB : (j : Int) < nB := by have := HAB.out; omega
            obtain ⟨dS, oS, rfl, hcS⟩ := HR.out.says j hlt
            obtain ⟨⟨dA, oA, rfl, hcA⟩, hIA⟩ := HR.out.first j (by have := HAB.out; omega)
            obtain ⟨⟨dB, oB, rfl, hcB⟩, hIB⟩ := HR.out.second j (by have := HAB.out; omega)
            have HIA := Lib.hid hIA
            have HIB := Lib.hid hIB
            clear hIA hIB
            obtain ⟨A1, hA1⟩ : ∃ x, x = (rA j).1 := ⟨_, rfl⟩
            obtain ⟨nA1, hnA1⟩ : ∃ x, x = (rA j).2.1 := ⟨_, rfl⟩
            obtain ⟨cA1, hcA1⟩ : ∃ x, x = (rA j).2.2 := ⟨_, rfl⟩
            obtain ⟨B1, hB1⟩ : ∃ x, x = (rB j).1 := ⟨_, rfl⟩
            obtain ⟨nB1, hnB1⟩ : ∃ x, x = (rB j).2.1 := ⟨_, rfl⟩
            obtain ⟨cB1, hcB1⟩ : ∃ x, x = (rB j).2.2 := ⟨_, rfl⟩
            rw [← hA1, ← hnA1, ← hcA1] at hcA
            rw [← hB1, ← hnB1, ← hcB1] at hcB
            rw [← hA1, ← hnA1] at HIA
            rw [← hB1, ← hnB1] at HIB
            have HNA := Lib.hid hnA1
            have HNB := Lib.hid hnB1
            clear hA1 hnA1 hcA1 hB1 hnB1 hcB1
            cases hs : inB (s j) 0 1
            · have HF := Lib.hid (HVF.out (fun h => by
                have := (h.2.2.2 j hlt).1
                rw [inB_mk (by omega) (by omega)] at hs
                cases hs))
              have HS := Lib.hid hs
              clear hs
              go_wp2_with fail
              refine (inRange_any _ _ _ _).mono ?_
              rintro e w2 ⟨rfl, rfl⟩
              rw [HS.out]
              go_wp2_with fail
              go_ret
              exact ⟨ret_bool HF.out, HK.out⟩
            · have HSB := Lib.hid (inB_true hs)
              have HS := Lib.hid hs
              clear hs
              by_cases hA2 : nA1 = nS
              · have hA2b : ((nA1 : Int) != (nS : Int)) = false := by simp; omega
                by_cases hB2 : nB1 = nS
                · have hB2b : ((nB1 : Int) != (nS : Int)) = false := by simp; omega
                  have HAB2 := Lib.hid (And.intro hA2 hB2)
                  clear hA2 hB2
                  go_wp2_with fail
                  refine (inRange_any _ _ _ _).mono ?_
                  rintro e w2 ⟨rfl, rfl⟩
                  rw [HS.out]
                  go_wp2_with fail
                  go_loopw [5] (fun i wr => ∃ b : Nat, b ≤ nS ∧ i = .int .i64 b ∧ Hid (∀ q, q < b → (0 ≤ f j q ∧ f j q ≤ (nS : Int) - 1) ∧ (0 ≤ g j q ∧ g j q ≤ (nS : Int) - 1)) ∧ (w.alloc (.cells #[.slice (some ⟨dS, oS, none⟩) nS cS, .slice (some ⟨dA, oA, none⟩) nA cA, .slice (some ⟨dB, oB, none⟩) nB cB] 54)) = wr) (fun i _ => nS - (intOf i).toNat)
                  case atStart => exact ⟨0, by omega, rfl, Lib.hid (fun i hi => absurd hi (Nat.not_lt_zero _)), rfl⟩
                  case round =>
                    obtain ⟨b, hb, rfl, HE, rfl⟩ := hrel
                    by_cases hltb : b < nS
                    · have hbi : (b : Int) < nS := by omega
                      have hbA : (b : Int) < nA1 := by have := HAB2.out; omega
                      have hbB : (b : Int) < nB1 := by have := HAB2.out; omega
                      obtain ⟨d1', o1', rfl, hf⟩ := HIA.out b (by have := HAB2.out; omega)
                      obtain ⟨d2', o2', rfl, hg⟩ := HIB.out b (by have := HAB2.out; omega)
                      have W1 : IntKind.i64.wrap ((nS : Int) - 1) = (nS : Int) - 1 := by rw [IntKind.wrap_i64]; omega
                      cases hf1 : inB (f j b) 0 ((nS : Int) - 1)
                      · have HF := Lib.hid (HVF.out (fun h => by
                          have := ((h.2.2.2 j hlt).2.2.2 b hltb).1
                          rw [inB_mk (by omega) (by omega)] at hf1
                          cases hf1))
                        have HF1 := Lib.hid hf1
                        clear hf1
                        go_wp2_with fail
                        refine (inRange_any _ _ _ _).mono ?_
                        rintro e w2 ⟨rfl, rfl⟩
                        rw [HF1.out]
                        go_wp2_with fail
                        go_ret
                        exact ⟨ret_bool HF.out, HK.out⟩
                      · have HFB := Lib.hid (inB_true hf1)
                        have HF1 := Lib.hid hf1
                        clear hf1
                        cases hg1 : inB (g j b) 0 ((nS : Int) - 1)
                        · have HF := Lib.hid (HVF.out (fun h => by
                            have := ((h.2.2.2 j hlt).2.2.2 b hltb).2
                            rw [inB_mk (by omega) (by omega)] at hg1
                            cases hg1))
                          have HG1 := Lib.hid hg1
                          clear hg1
                          go_wp2_with fail
                          refine (inRange_any _ _ _ _).mono ?_
                          rintro e w2 ⟨rfl, rfl⟩
                          rw [HF1.out]
                          go_wp2_with fail
                          refine (inRange_any _ _ _ _).mono ?_
                          rintro e w2 ⟨rfl, rfl⟩
                          rw [HG1.out]
                          go_wp2_with fail
                          go_ret
                          exact ⟨ret_bool HF.out, HK.out⟩
                        · have HGB := Lib.hid (inB_true hg1)
                          have HG1 := Lib.hid hg1
                          clear hg1
                          go_wp2_with fail
                          refine (inRange_any _ _ _ _).mono ?_
                          rintro e w2 ⟨rfl, rfl⟩
                          rw [HF1.out]
                          go_wp2_with fail
                          refine (inRange_any _ _ _ _).mono ?_
                          rintro e w2 ⟨rfl, rfl⟩
                          rw [HG1.out]
                          go_wp2_with fail
                          go_roundw
                          case rel =>
                            refine ⟨b + 1, by omega, by go_num, Lib.hid (fun q hq => ?_), trivial⟩
                            by_cases e : q = b
                            · rw [e]; exact ⟨HFB.out, HGB.out⟩
                            · exact HE.out q (by omega)
                          case measure => simp [intOf]; omega
                    · obtain rfl : b = nS := by omega
                      have HJ : Hid (∀ a, a < j + 1 → (s a = 0 ∨ s a = 1) ∧ (rA a).2.1 = b ∧ (rB a).2.1 = b ∧ ∀ q, q < b → (0 ≤ f a q ∧ f a q ≤ (b : Int) - 1) ∧ (0 ≤ g a q ∧ g a q ≤ (b : Int) - 1)) := Lib.hid (fun a ha => by
                        by_cases e : a = j
                        · rw [e]
                          refine ⟨by have := HSB.out; omega, by rw [← HNA.out]; exact HAB2.out.1, by rw [← HNB.out]; exact HAB2.out.2, HE.out⟩
                        · exact HD.out a (by omega))
                      go_wp2_with fail
                      go_roundw
                      case rel => exact ⟨j + 1, by omega, by go_num, HJ, trivial⟩
                      case measure => simp [intOf]; omega
                · have hB2b : ((nB1 : Int) != (nS : Int)) = true := by simp; omega
                  have HF := Lib.hid (HVF.out (fun h => hB2 (HNB.out.trans (h.2.2.2 j hlt).2.2.1)))
                  clear hA2 hB2
                  go_wp2_with fail
                  refine (inRange_any _ _ _ _).mono ?_
                  rintro e w2 ⟨rfl, rfl⟩
                  rw [HS.out]
                  go_wp2_with fail
                  go_ret
                  exact ⟨ret_bool HF.out, HK.out⟩
              · have hA2b : ((nA1 : Int) != (nS : Int)) = true := by simp; omega
                have HF := Lib.hid (HVF.out (fun h => hA2 (HNA.out.trans (h.2.2.2 j hlt).2.1)))
                clear hA2
                go_wp2_with fail
                refine (inRange_any _ _ _ _).mono ?_
                rintro e w2 ⟨rfl, rfl⟩
                rw [HS.out]
                go_wp2_with fail
                go_ret
                exact ⟨ret_bool HF.out, HK.out⟩
          · obtain rfl : j = nS := by omega
            have HT := Lib.hid (HVT.out ⟨by omega, HAB.out.1, HAB.out.2, HD.out⟩)
            go_wp2_with fail
            go_ret
            exact ⟨ret_bool HT.out, HK.out⟩
      · have hAb : ((nA : Int) != (nS : Int)) = false := by simp; omega
        have hBb : ((nB : Int) != (nS : Int)) = true := by simp; omega
        have HF := Lib.hid (HVF.out (fun h => hB h.2.2.1))
        clear hA hB
        go_enter Tryz.func52, Tryz.ntmps52
        go_wp2_with fail
        refine (inRange_any _ _ _ _).mono ?_
        rintro e w2 ⟨rfl, rfl⟩
        rw [HIN.out]
        go_wp2_with fail
        go_ret
        exact ⟨ret_bool HF.out, HK.out⟩
    · have hAb : ((nA : Int) != (nS : Int)) = true := by simp; omega
      have HF := Lib.hid (HVF.out (fun h => hA h.2.1))
      clear hA
      go_enter Tryz.func52, Tryz.ntmps52
      go_wp2_with fail
      refine (inRange_any _ _ _ _).mono ?_
      rintro e w2 ⟨rfl, rfl⟩
      rw [HIN.out]
      go_wp2_with fail
      go_ret
      exact ⟨ret_bool HF.out, HK.out⟩
end Go.Proofs.YtlniogfinofakaaGreatDoor
/-
  The reference's tables of rules, in memory. No condition.
-/
namespace Go.Proofs.YtlniogfinofakaaGreatDoor
set_option maxRecDepth 100000
set_option linter.unusedVariables false
open Go.RowKit

def lsI (l : List Int) (i : Nat) : Int := l.getD i 0
def lsII (L : List (List Int)) (i j : Nat) : Int := (L.getD i []).getD j 0
/-- Blocks made one behind the other. -/
def made : World → List (Array Value × TypeId) → World
  | w, [] => w
  | w, c :: cs => made (w.alloc (.cells c.1 c.2)) cs
theorem made_keeps : ∀ (cs : List (Array Value × TypeId)) (w : World), Keeps w (made w cs)
  | [], w => Keeps.refl w
  | c :: cs, w => (Keeps.alloc w _).step (made_keeps cs _)
theorem made_blk : ∀ (cs : List (Array Value × TypeId)) (w : World) (i : Nat) (c : Array Value × TypeId), cs[i]? = some c → Blk (made w cs) (w.heap.size + i) c.2 c.1
  | [], w, i, c, h => by simp at h
  | d :: cs, w, 0, c, h => by
    simp at h
    subst h
    exact (Blk.new w _ _).keeps (made_keeps cs _)
  | d :: cs, w, i + 1, c, h => by
    have h1 := made_blk cs (w.alloc (.cells d.1 d.2)) i c (by simpa using h)
    rw [World.size_alloc] at h1
    rw [show w.heap.size + (i + 1) = w.heap.size + 1 + i by omega]
    exact h1
/-- Nothing turned from lo to hi. -/
def Same (lo hi : Nat) (w w' : World) : Prop := ∀ i, lo ≤ i → i < hi → w'.heap[i]? = w.heap[i]?
theorem Blk.same {w w' : World} {lo hi b : Nat} {T : TypeId} {cs : Array Value} (h : Blk w b T cs) (k : Same lo hi w w') (h1 : lo ≤ b) (h2 : b < hi) : Blk w' b T cs := (k b h1 h2).trans h
def intC (l : List Int) : Array Value × TypeId := ((l.map (Value.int .i64)).toArray, 3)
theorem ints_of {w : World} {b : Nat} {l : List Int} (h : Blk w b 3 (l.map (Value.int .i64)).toArray) : Ints w (some ⟨b, 0, none⟩) l.length (lsI l) := fun i hi => by
  refine ⟨b, 0, rfl, ?_⟩
  rw [Nat.zero_add, h.cell i]
  unfold lsI
  simp [hi]
theorem rows_of {w : World} {b b0 : Nat} {L : List (List Int)} {n : Nat} (h : Blk w b 45 ((List.range L.length).map (fun i => Value.slice (some ⟨b0 + i, 0, none⟩) n n)).toArray) (hr : ∀ i, i < L.length → (L.getD i []).length = n ∧ Blk w (b0 + i) 3 ((L.getD i []).map (Value.int .i64)).toArray) : Rows w (some ⟨b, 0, none⟩) L.length (fun i => (some ⟨b0 + i, 0, none⟩, n, n)) (lsII L) := fun i hi => by
  refine ⟨⟨b, 0, rfl, ?_⟩, ?_⟩
  · rw [Nat.zero_add, h.cell i]
    simp [hi]
  · obtain ⟨h1, h2⟩ := hr i hi
    have h3 := ints_of h2
    rw [h1] at h3
    exact h3

def tabC_some (a : Nat) : List (Array Value × TypeId) := [(#[Value.slice (some ⟨a + 1, 0, none⟩) 2 2, Value.slice (some ⟨a + 4, 0, none⟩) 2 2, Value.slice (some ⟨a + 7, 0, none⟩) 2 2], 54), (#[Value.int .i64 0, Value.int .i64 1], 3), (#[Value.int .i64 0, Value.int .i64 1], 3), (#[Value.int .i64 1, Value.int .i64 1], 3), (#[Value.slice (some ⟨a + 2, 0, none⟩) 2 2, Value.slice (some ⟨a + 3, 0, none⟩) 2 2], 45), (#[Value.int .i64 0, Value.int .i64 1], 3), (#[Value.int .i64 1, Value.int .i64 1], 3), (#[Value.slice (some ⟨a + 5, 0, none⟩) 2 2, Value.slice (some ⟨a + 6, 0, none⟩) 2 2], 45)]
set_option maxRecDepth 100000 in
set_option maxHeartbeats 4000000 in
theorem rulesOf_some (w : World) :
    Calls Tryz.prog 34 #[.string ⟨#[115, 111, 109, 101]⟩] w fun e w' => ∃ (S A B : Option Addr) (rA rB : Nat → Option Addr × Nat × Nat), e = .returned (.tuple #[.agg #[.slice S 2 2, .slice A 2 2, .slice B 2 2], .bool true]) ∧ (∀ W, Same w.heap.size w'.heap.size w' W → RulAt W S 2 (lsI [0, 1]) A 2 rA (lsII [[0, 1], [1, 1]]) B 2 rB (lsII [[0, 1], [1, 1]])) ∧ ((∀ i, i < 2 → (rA i).2.1 = 2) ∧ (∀ i, i < 2 → (rB i).2.1 = 2)) ∧ Keeps w w' := by
  go_enter Tryz.func34, Tryz.ntmps34
  go_wp2
  have hb := made_blk (tabC_some w.heap.size) w
  have hk : Keeps w (made w (tabC_some w.heap.size)) := made_keeps _ _
  have hlt : ∀ i c, (tabC_some w.heap.size)[i]? = some c → w.heap.size + i < (made w (tabC_some w.heap.size)).heap.size := fun i c h => (made_blk _ w i c h).lt
  have c0 : (made w (tabC_some w.heap.size)).cell? ⟨w.heap.size, 0, none⟩ = some (Value.slice (some ⟨w.heap.size + 1, 0, none⟩) 2 2) := (hb 0 _ rfl).cell 0
  have c1 : (made w (tabC_some w.heap.size)).cell? ⟨w.heap.size, 1, none⟩ = some (Value.slice (some ⟨w.heap.size + 4, 0, none⟩) 2 2) := (hb 0 _ rfl).cell 1
  have c2 : (made w (tabC_some w.heap.size)).cell? ⟨w.heap.size, 2, none⟩ = some (Value.slice (some ⟨w.heap.size + 7, 0, none⟩) 2 2) := (hb 0 _ rfl).cell 2
  obtain ⟨W, hW⟩ : ∃ W, W = made w (tabC_some w.heap.size) := ⟨_, rfl⟩
  rw [← hW] at hb hk hlt c0 c1 c2
  have key : ∀ a : Act, a.tmps[2]? = some (.pointer (some ⟨w.heap.size, 0, none⟩)) → a.tmps[3]? = some (.bool true) → a.defers = [] → bodyPost Tryz.prog Tryz.f34 (fun e w' => ∃ (S A B : Option Addr) (rA rB : Nat → Option Addr × Nat × Nat), e = .returned (.tuple #[.agg #[.slice S 2 2, .slice A 2 2, .slice B 2 2], .bool true]) ∧ (∀ W, Same w.heap.size w'.heap.size w' W → RulAt W S 2 (lsI [0, 1]) A 2 rA (lsII [[0, 1], [1, 1]]) B 2 rB (lsII [[0, 1], [1, 1]])) ∧ ((∀ i, i < 2 → (rA i).2.1 = 2) ∧ (∀ i, i < 2 → (rB i).2.1 = 2)) ∧ Keeps w w') Exit.ret a W := fun a h2 h3 hd => by
    refine bodyPost_ret (v := .tuple #[.agg #[Value.slice (some ⟨w.heap.size + 1, 0, none⟩) 2 2, Value.slice (some ⟨w.heap.size + 4, 0, none⟩) 2 2, Value.slice (some ⟨w.heap.size + 7, 0, none⟩) 2 2], .bool true]) (by simp [results, Tryz.results34, go_sem, c0, c1, c2, h2, h3]) hd ⟨some ⟨w.heap.size + 1, 0, none⟩, some ⟨w.heap.size + 4, 0, none⟩, some ⟨w.heap.size + 7, 0, none⟩, fun i => (some ⟨w.heap.size + 2 + i, 0, none⟩, 2, 2), fun i => (some ⟨w.heap.size + 5 + i, 0, none⟩, 2, 2), rfl, fun W' hs => ?_, ⟨fun _ _ => rfl, fun _ _ => rfl⟩, hk⟩
    have hB : ∀ i c, (tabC_some w.heap.size)[i]? = some c → Blk W' (w.heap.size + i) c.2 c.1 := fun i c h => (hb i c h).same hs (by omega) (hlt i c h)
    refine ⟨ints_of (l := [0, 1]) (hB 1 _ rfl), rows_of (L := [[0, 1], [1, 1]]) (b0 := w.heap.size + 2) (hB 4 _ rfl) (fun i hi => ?_), rows_of (L := [[0, 1], [1, 1]]) (b0 := w.heap.size + 5) (hB 7 _ rfl) (fun i hi => ?_), by omega, by omega, by omega, fun _ _ => by dsimp only; omega, fun _ _ => by dsimp only; omega⟩
    · match i, hi with
    | 0, _ => exact ⟨rfl, hB 2 _ rfl⟩
    | 1, _ => exact ⟨rfl, hB 3 _ rfl⟩
    · match i, hi with
    | 0, _ => exact ⟨rfl, hB 5 _ rfl⟩
    | 1, _ => exact ⟨rfl, hB 6 _ rfl⟩
  rw [hW] at key
  exact key _ rfl rfl rfl
def tabC_three (a : Nat) : List (Array Value × TypeId) := [(#[Value.slice (some ⟨a + 1, 0, none⟩) 4 4, Value.slice (some ⟨a + 6, 0, none⟩) 4 4, Value.slice (some ⟨a + 11, 0, none⟩) 4 4], 54), (#[Value.int .i64 0, Value.int .i64 0, Value.int .i64 0, Value.int .i64 1], 3), (#[Value.int .i64 0, Value.int .i64 1, Value.int .i64 2, Value.int .i64 3], 3), (#[Value.int .i64 1, Value.int .i64 2, Value.int .i64 3, Value.int .i64 3], 3), (#[Value.int .i64 2, Value.int .i64 3, Value.int .i64 3, Value.int .i64 3], 3), (#[Value.int .i64 3, Value.int .i64 3, Value.int .i64 3, Value.int .i64 3], 3), (#[Value.slice (some ⟨a + 2, 0, none⟩) 4 4, Value.slice (some ⟨a + 3, 0, none⟩) 4 4, Value.slice (some ⟨a + 4, 0, none⟩) 4 4, Value.slice (some ⟨a + 5, 0, none⟩) 4 4], 45), (#[Value.int .i64 0, Value.int .i64 0, Value.int .i64 0, Value.int .i64 3], 3), (#[Value.int .i64 0, Value.int .i64 0, Value.int .i64 3, Value.int .i64 3], 3), (#[Value.int .i64 0, Value.int .i64 3, Value.int .i64 3, Value.int .i64 3], 3), (#[Value.int .i64 3, Value.int .i64 3, Value.int .i64 3, Value.int .i64 3], 3), (#[Value.slice (some ⟨a + 7, 0, none⟩) 4 4, Value.slice (some ⟨a + 8, 0, none⟩) 4 4, Value.slice (some ⟨a + 9, 0, none⟩) 4 4, Value.slice (some ⟨a + 10, 0, none⟩) 4 4], 45)]
set_option maxRecDepth 100000 in
set_option maxHeartbeats 4000000 in
theorem rulesOf_three (w : World) :
    Calls Tryz.prog 34 #[.string ⟨#[116, 104, 114, 101, 101]⟩] w fun e w' => ∃ (S A B : Option Addr) (rA rB : Nat → Option Addr × Nat × Nat), e = .returned (.tuple #[.agg #[.slice S 4 4, .slice A 4 4, .slice B 4 4], .bool true]) ∧ (∀ W, Same w.heap.size w'.heap.size w' W → RulAt W S 4 (lsI [0, 0, 0, 1]) A 4 rA (lsII [[0, 1, 2, 3], [1, 2, 3, 3], [2, 3, 3, 3], [3, 3, 3, 3]]) B 4 rB (lsII [[0, 0, 0, 3], [0, 0, 3, 3], [0, 3, 3, 3], [3, 3, 3, 3]])) ∧ ((∀ i, i < 4 → (rA i).2.1 = 4) ∧ (∀ i, i < 4 → (rB i).2.1 = 4)) ∧ Keeps w w' := by
  go_enter Tryz.func34, Tryz.ntmps34
  go_wp2
  have hb := made_blk (tabC_three w.heap.size) w
  have hk : Keeps w (made w (tabC_three w.heap.size)) := made_keeps _ _
  have hlt : ∀ i c, (tabC_three w.heap.size)[i]? = some c → w.heap.size + i < (made w (tabC_three w.heap.size)).heap.size := fun i c h => (made_blk _ w i c h).lt
  have c0 : (made w (tabC_three w.heap.size)).cell? ⟨w.heap.size, 0, none⟩ = some (Value.slice (some ⟨w.heap.size + 1, 0, none⟩) 4 4) := (hb 0 _ rfl).cell 0
  have c1 : (made w (tabC_three w.heap.size)).cell? ⟨w.heap.size, 1, none⟩ = some (Value.slice (some ⟨w.heap.size + 6, 0, none⟩) 4 4) := (hb 0 _ rfl).cell 1
  have c2 : (made w (tabC_three w.heap.size)).cell? ⟨w.heap.size, 2, none⟩ = some (Value.slice (some ⟨w.heap.size + 11, 0, none⟩) 4 4) := (hb 0 _ rfl).cell 2
  obtain ⟨W, hW⟩ : ∃ W, W = made w (tabC_three w.heap.size) := ⟨_, rfl⟩
  rw [← hW] at hb hk hlt c0 c1 c2
  have key : ∀ a : Act, a.tmps[2]? = some (.pointer (some ⟨w.heap.size, 0, none⟩)) → a.tmps[3]? = some (.bool true) → a.defers = [] → bodyPost Tryz.prog Tryz.f34 (fun e w' => ∃ (S A B : Option Addr) (rA rB : Nat → Option Addr × Nat × Nat), e = .returned (.tuple #[.agg #[.slice S 4 4, .slice A 4 4, .slice B 4 4], .bool true]) ∧ (∀ W, Same w.heap.size w'.heap.size w' W → RulAt W S 4 (lsI [0, 0, 0, 1]) A 4 rA (lsII [[0, 1, 2, 3], [1, 2, 3, 3], [2, 3, 3, 3], [3, 3, 3, 3]]) B 4 rB (lsII [[0, 0, 0, 3], [0, 0, 3, 3], [0, 3, 3, 3], [3, 3, 3, 3]])) ∧ ((∀ i, i < 4 → (rA i).2.1 = 4) ∧ (∀ i, i < 4 → (rB i).2.1 = 4)) ∧ Keeps w w') Exit.ret a W := fun a h2 h3 hd => by
    refine bodyPost_ret (v := .tuple #[.agg #[Value.slice (some ⟨w.heap.size + 1, 0, none⟩) 4 4, Value.slice (some ⟨w.heap.size + 6, 0, none⟩) 4 4, Value.slice (some ⟨w.heap.size + 11, 0, none⟩) 4 4], .bool true]) (by simp [results, Tryz.results34, go_sem, c0, c1, c2, h2, h3]) hd ⟨some ⟨w.heap.size + 1, 0, none⟩, some ⟨w.heap.size + 6, 0, none⟩, some ⟨w.heap.size + 11, 0, none⟩, fun i => (some ⟨w.heap.size + 2 + i, 0, none⟩, 4, 4), fun i => (some ⟨w.heap.size + 7 + i, 0, none⟩, 4, 4), rfl, fun W' hs => ?_, ⟨fun _ _ => rfl, fun _ _ => rfl⟩, hk⟩
    have hB : ∀ i c, (tabC_three w.heap.size)[i]? = some c → Blk W' (w.heap.size + i) c.2 c.1 := fun i c h => (hb i c h).same hs (by omega) (hlt i c h)
    refine ⟨ints_of (l := [0, 0, 0, 1]) (hB 1 _ rfl), rows_of (L := [[0, 1, 2, 3], [1, 2, 3, 3], [2, 3, 3, 3], [3, 3, 3, 3]]) (b0 := w.heap.size + 2) (hB 6 _ rfl) (fun i hi => ?_), rows_of (L := [[0, 0, 0, 3], [0, 0, 3, 3], [0, 3, 3, 3], [3, 3, 3, 3]]) (b0 := w.heap.size + 7) (hB 11 _ rfl) (fun i hi => ?_), by omega, by omega, by omega, fun _ _ => by dsimp only; omega, fun _ _ => by dsimp only; omega⟩
    · match i, hi with
    | 0, _ => exact ⟨rfl, hB 2 _ rfl⟩
    | 1, _ => exact ⟨rfl, hB 3 _ rfl⟩
    | 2, _ => exact ⟨rfl, hB 4 _ rfl⟩
    | 3, _ => exact ⟨rfl, hB 5 _ rfl⟩
    · match i, hi with
    | 0, _ => exact ⟨rfl, hB 7 _ rfl⟩
    | 1, _ => exact ⟨rfl, hB 8 _ rfl⟩
    | 2, _ => exact ⟨rfl, hB 9 _ rfl⟩
    | 3, _ => exact ⟨rfl, hB 10 _ rfl⟩
  rw [hW] at key
  exact key _ rfl rfl rfl
def tabC_most (a : Nat) : List (Array Value × TypeId) := [(#[Value.slice (some ⟨a + 1, 0, none⟩) 4 4, Value.slice (some ⟨a + 6, 0, none⟩) 4 4, Value.slice (some ⟨a + 11, 0, none⟩) 4 4], 54), (#[Value.int .i64 0, Value.int .i64 1, Value.int .i64 0, Value.int .i64 1], 3), (#[Value.int .i64 0, Value.int .i64 2, Value.int .i64 0, Value.int .i64 0], 3), (#[Value.int .i64 2, Value.int .i64 1, Value.int .i64 1, Value.int .i64 1], 3), (#[Value.int .i64 2, Value.int .i64 3, Value.int .i64 2, Value.int .i64 2], 3), (#[Value.int .i64 2, Value.int .i64 3, Value.int .i64 2, Value.int .i64 3], 3), (#[Value.slice (some ⟨a + 2, 0, none⟩) 4 4, Value.slice (some ⟨a + 3, 0, none⟩) 4 4, Value.slice (some ⟨a + 4, 0, none⟩) 4 4, Value.slice (some ⟨a + 5, 0, none⟩) 4 4], 45), (#[Value.int .i64 0, Value.int .i64 2, Value.int .i64 2, Value.int .i64 2], 3), (#[Value.int .i64 2, Value.int .i64 1, Value.int .i64 3, Value.int .i64 3], 3), (#[Value.int .i64 0, Value.int .i64 1, Value.int .i64 2, Value.int .i64 2], 3), (#[Value.int .i64 0, Value.int .i64 1, Value.int .i64 2, Value.int .i64 3], 3), (#[Value.slice (some ⟨a + 7, 0, none⟩) 4 4, Value.slice (some ⟨a + 8, 0, none⟩) 4 4, Value.slice (some ⟨a + 9, 0, none⟩) 4 4, Value.slice (some ⟨a + 10, 0, none⟩) 4 4], 45)]
set_option maxRecDepth 100000 in
set_option maxHeartbeats 4000000 in
theorem rulesOf_most (w : World) :
    Calls Tryz.prog 34 #[.string ⟨#[109, 111, 115, 116]⟩] w fun e w' => ∃ (S A B : Option Addr) (rA rB : Nat → Option Addr × Nat × Nat), e = .returned (.tuple #[.agg #[.slice S 4 4, .slice A 4 4, .slice B 4 4], .bool true]) ∧ (∀ W, Same w.heap.size w'.heap.size w' W → RulAt W S 4 (lsI [0, 1, 0, 1]) A 4 rA (lsII [[0, 2, 0, 0], [2, 1, 1, 1], [2, 3, 2, 2], [2, 3, 2, 3]]) B 4 rB (lsII [[0, 2, 2, 2], [2, 1, 3, 3], [0, 1, 2, 2], [0, 1, 2, 3]])) ∧ ((∀ i, i < 4 → (rA i).2.1 = 4) ∧ (∀ i, i < 4 → (rB i).2.1 = 4)) ∧ Keeps w w' := by
  go_enter Tryz.func34, Tryz.ntmps34
  go_wp2
  have hb := made_blk (tabC_most w.heap.size) w
  have hk : Keeps w (made w (tabC_most w.heap.size)) := made_keeps _ _
  have hlt : ∀ i c, (tabC_most w.heap.size)[i]? = some c → w.heap.size + i < (made w (tabC_most w.heap.size)).heap.size := fun i c h => (made_blk _ w i c h).lt
  have c0 : (made w (tabC_most w.heap.size)).cell? ⟨w.heap.size, 0, none⟩ = some (Value.slice (some ⟨w.heap.size + 1, 0, none⟩) 4 4) := (hb 0 _ rfl).cell 0
  have c1 : (made w (tabC_most w.heap.size)).cell? ⟨w.heap.size, 1, none⟩ = some (Value.slice (some ⟨w.heap.size + 6, 0, none⟩) 4 4) := (hb 0 _ rfl).cell 1
  have c2 : (made w (tabC_most w.heap.size)).cell? ⟨w.heap.size, 2, none⟩ = some (Value.slice (some ⟨w.heap.size + 11, 0, none⟩) 4 4) := (hb 0 _ rfl).cell 2
  obtain ⟨W, hW⟩ : ∃ W, W = made w (tabC_most w.heap.size) := ⟨_, rfl⟩
  rw [← hW] at hb hk hlt c0 c1 c2
  have key : ∀ a : Act, a.tmps[2]? = some (.pointer (some ⟨w.heap.size, 0, none⟩)) → a.tmps[3]? = some (.bool true) → a.defers = [] → bodyPost Tryz.prog Tryz.f34 (fun e w' => ∃ (S A B : Option Addr) (rA rB : Nat → Option Addr × Nat × Nat), e = .returned (.tuple #[.agg #[.slice S 4 4, .slice A 4 4, .slice B 4 4], .bool true]) ∧ (∀ W, Same w.heap.size w'.heap.size w' W → RulAt W S 4 (lsI [0, 1, 0, 1]) A 4 rA (lsII [[0, 2, 0, 0], [2, 1, 1, 1], [2, 3, 2, 2], [2, 3, 2, 3]]) B 4 rB (lsII [[0, 2, 2, 2], [2, 1, 3, 3], [0, 1, 2, 2], [0, 1, 2, 3]])) ∧ ((∀ i, i < 4 → (rA i).2.1 = 4) ∧ (∀ i, i < 4 → (rB i).2.1 = 4)) ∧ Keeps w w') Exit.ret a W := fun a h2 h3 hd => by
    refine bodyPost_ret (v := .tuple #[.agg #[Value.slice (some ⟨w.heap.size + 1, 0, none⟩) 4 4, Value.slice (some ⟨w.heap.size + 6, 0, none⟩) 4 4, Value.slice (some ⟨w.heap.size + 11, 0, none⟩) 4 4], .bool true]) (by simp [results, Tryz.results34, go_sem, c0, c1, c2, h2, h3]) hd ⟨some ⟨w.heap.size + 1, 0, none⟩, some ⟨w.heap.size + 6, 0, none⟩, some ⟨w.heap.size + 11, 0, none⟩, fun i => (some ⟨w.heap.size + 2 + i, 0, none⟩, 4, 4), fun i => (some ⟨w.heap.size + 7 + i, 0, none⟩, 4, 4), rfl, fun W' hs => ?_, ⟨fun _ _ => rfl, fun _ _ => rfl⟩, hk⟩
    have hB : ∀ i c, (tabC_most w.heap.size)[i]? = some c → Blk W' (w.heap.size + i) c.2 c.1 := fun i c h => (hb i c h).same hs (by omega) (hlt i c h)
    refine ⟨ints_of (l := [0, 1, 0, 1]) (hB 1 _ rfl), rows_of (L := [[0, 2, 0, 0], [2, 1, 1, 1], [2, 3, 2, 2], [2, 3, 2, 3]]) (b0 := w.heap.size + 2) (hB 6 _ rfl) (fun i hi => ?_), rows_of (L := [[0, 2, 2, 2], [2, 1, 3, 3], [0, 1, 2, 2], [0, 1, 2, 3]]) (b0 := w.heap.size + 7) (hB 11 _ rfl) (fun i hi => ?_), by omega, by omega, by omega, fun _ _ => by dsimp only; omega, fun _ _ => by dsimp only; omega⟩
    · match i, hi with
    | 0, _ => exact ⟨rfl, hB 2 _ rfl⟩
    | 1, _ => exact ⟨rfl, hB 3 _ rfl⟩
    | 2, _ => exact ⟨rfl, hB 4 _ rfl⟩
    | 3, _ => exact ⟨rfl, hB 5 _ rfl⟩
    · match i, hi with
    | 0, _ => exact ⟨rfl, hB 7 _ rfl⟩
    | 1, _ => exact ⟨rfl, hB 8 _ rfl⟩
    | 2, _ => exact ⟨rfl, hB 9 _ rfl⟩
    | 3, _ => exact ⟨rfl, hB 10 _ rfl⟩
  rw [hW] at key
  exact key _ rfl rfl rfl
def tabC_odd (a : Nat) : List (Array Value × TypeId) := [(#[Value.slice (some ⟨a + 1, 0, none⟩) 4 4, Value.slice (some ⟨a + 6, 0, none⟩) 4 4, Value.slice (some ⟨a + 11, 0, none⟩) 4 4], 54), (#[Value.int .i64 0, Value.int .i64 1, Value.int .i64 0, Value.int .i64 1], 3), (#[Value.int .i64 0, Value.int .i64 1, Value.int .i64 0, Value.int .i64 0], 3), (#[Value.int .i64 1, Value.int .i64 0, Value.int .i64 1, Value.int .i64 1], 3), (#[Value.int .i64 2, Value.int .i64 3, Value.int .i64 2, Value.int .i64 2], 3), (#[Value.int .i64 2, Value.int .i64 3, Value.int .i64 3, Value.int .i64 3], 3), (#[Value.slice (some ⟨a + 2, 0, none⟩) 4 4, Value.slice (some ⟨a + 3, 0, none⟩) 4 4, Value.slice (some ⟨a + 4, 0, none⟩) 4 4, Value.slice (some ⟨a + 5, 0, none⟩) 4 4], 45), (#[Value.int .i64 2, Value.int .i64 3, Value.int .i64 2, Value.int .i64 2], 3), (#[Value.int .i64 3, Value.int .i64 2, Value.int .i64 3, Value.int .i64 3], 3), (#[Value.int .i64 0, Value.int .i64 1, Value.int .i64 2, Value.int .i64 3], 3), (#[Value.int .i64 0, Value.int .i64 1, Value.int .i64 2, Value.int .i64 3], 3), (#[Value.slice (some ⟨a + 7, 0, none⟩) 4 4, Value.slice (some ⟨a + 8, 0, none⟩) 4 4, Value.slice (some ⟨a + 9, 0, none⟩) 4 4, Value.slice (some ⟨a + 10, 0, none⟩) 4 4], 45)]
set_option maxRecDepth 100000 in
set_option maxHeartbeats 4000000 in
theorem rulesOf_odd (w : World) :
    Calls Tryz.prog 34 #[.string ⟨#[111, 100, 100]⟩] w fun e w' => ∃ (S A B : Option Addr) (rA rB : Nat → Option Addr × Nat × Nat), e = .returned (.tuple #[.agg #[.slice S 4 4, .slice A 4 4, .slice B 4 4], .bool true]) ∧ (∀ W, Same w.heap.size w'.heap.size w' W → RulAt W S 4 (lsI [0, 1, 0, 1]) A 4 rA (lsII [[0, 1, 0, 0], [1, 0, 1, 1], [2, 3, 2, 2], [2, 3, 3, 3]]) B 4 rB (lsII [[2, 3, 2, 2], [3, 2, 3, 3], [0, 1, 2, 3], [0, 1, 2, 3]])) ∧ ((∀ i, i < 4 → (rA i).2.1 = 4) ∧ (∀ i, i < 4 → (rB i).2.1 = 4)) ∧ Keeps w w' := by
  go_enter Tryz.func34, Tryz.ntmps34
  go_wp2
  have hb := made_blk (tabC_odd w.heap.size) w
  have hk : Keeps w (made w (tabC_odd w.heap.size)) := made_keeps _ _
  have hlt : ∀ i c, (tabC_odd w.heap.size)[i]? = some c → w.heap.size + i < (made w (tabC_odd w.heap.size)).heap.size := fun i c h => (made_blk _ w i c h).lt
  have c0 : (made w (tabC_odd w.heap.size)).cell? ⟨w.heap.size, 0, none⟩ = some (Value.slice (some ⟨w.heap.size + 1, 0, none⟩) 4 4) := (hb 0 _ rfl).cell 0
  have c1 : (made w (tabC_odd w.heap.size)).cell? ⟨w.heap.size, 1, none⟩ = some (Value.slice (some ⟨w.heap.size + 6, 0, none⟩) 4 4) := (hb 0 _ rfl).cell 1
  have c2 : (made w (tabC_odd w.heap.size)).cell? ⟨w.heap.size, 2, none⟩ = some (Value.slice (some ⟨w.heap.size + 11, 0, none⟩) 4 4) := (hb 0 _ rfl).cell 2
  obtain ⟨W, hW⟩ : ∃ W, W = made w (tabC_odd w.heap.size) := ⟨_, rfl⟩
  rw [← hW] at hb hk hlt c0 c1 c2
  have key : ∀ a : Act, a.tmps[2]? = some (.pointer (some ⟨w.heap.size, 0, none⟩)) → a.tmps[3]? = some (.bool true) → a.defers = [] → bodyPost Tryz.prog Tryz.f34 (fun e w' => ∃ (S A B : Option Addr) (rA rB : Nat → Option Addr × Nat × Nat), e = .returned (.tuple #[.agg #[.slice S 4 4, .slice A 4 4, .slice B 4 4], .bool true]) ∧ (∀ W, Same w.heap.size w'.heap.size w' W → RulAt W S 4 (lsI [0, 1, 0, 1]) A 4 rA (lsII [[0, 1, 0, 0], [1, 0, 1, 1], [2, 3, 2, 2], [2, 3, 3, 3]]) B 4 rB (lsII [[2, 3, 2, 2], [3, 2, 3, 3], [0, 1, 2, 3], [0, 1, 2, 3]])) ∧ ((∀ i, i < 4 → (rA i).2.1 = 4) ∧ (∀ i, i < 4 → (rB i).2.1 = 4)) ∧ Keeps w w') Exit.ret a W := fun a h2 h3 hd => by
    refine bodyPost_ret (v := .tuple #[.agg #[Value.slice (some ⟨w.heap.size + 1, 0, none⟩) 4 4, Value.slice (some ⟨w.heap.size + 6, 0, none⟩) 4 4, Value.slice (some ⟨w.heap.size + 11, 0, none⟩) 4 4], .bool true]) (by simp [results, Tryz.results34, go_sem, c0, c1, c2, h2, h3]) hd ⟨some ⟨w.heap.size + 1, 0, none⟩, some ⟨w.heap.size + 6, 0, none⟩, some ⟨w.heap.size + 11, 0, none⟩, fun i => (some ⟨w.heap.size + 2 + i, 0, none⟩, 4, 4), fun i => (some ⟨w.heap.size + 7 + i, 0, none⟩, 4, 4), rfl, fun W' hs => ?_, ⟨fun _ _ => rfl, fun _ _ => rfl⟩, hk⟩
    have hB : ∀ i c, (tabC_odd w.heap.size)[i]? = some c → Blk W' (w.heap.size + i) c.2 c.1 := fun i c h => (hb i c h).same hs (by omega) (hlt i c h)
    refine ⟨ints_of (l := [0, 1, 0, 1]) (hB 1 _ rfl), rows_of (L := [[0, 1, 0, 0], [1, 0, 1, 1], [2, 3, 2, 2], [2, 3, 3, 3]]) (b0 := w.heap.size + 2) (hB 6 _ rfl) (fun i hi => ?_), rows_of (L := [[2, 3, 2, 2], [3, 2, 3, 3], [0, 1, 2, 3], [0, 1, 2, 3]]) (b0 := w.heap.size + 7) (hB 11 _ rfl) (fun i hi => ?_), by omega, by omega, by omega, fun _ _ => by dsimp only; omega, fun _ _ => by dsimp only; omega⟩
    · match i, hi with
    | 0, _ => exact ⟨rfl, hB 2 _ rfl⟩
    | 1, _ => exact ⟨rfl, hB 3 _ rfl⟩
    | 2, _ => exact ⟨rfl, hB 4 _ rfl⟩
    | 3, _ => exact ⟨rfl, hB 5 _ rfl⟩
    · match i, hi with
    | 0, _ => exact ⟨rfl, hB 7 _ rfl⟩
    | 1, _ => exact ⟨rfl, hB 8 _ rfl⟩
    | 2, _ => exact ⟨rfl, hB 9 _ rfl⟩
    | 3, _ => exact ⟨rfl, hB 10 _ rfl⟩
  rw [hW] at key
  exact key _ rfl rfl rfl
end Go.Proofs.YtlniogfinofakaaGreatDoor
