/-
  NextOf and ReachedOf of both, for any rules and numbers. Conditions: bounds on lengths.
-/
import Derived.Test.YtaejakejnllimaaSRch
import Derived.Test.YtaejakejnllimaaCrwOk
namespace Go.Proofs.Ytaejakejnllimaa
set_option maxRecDepth 100000
set_option linter.unusedVariables false
open Go.RowKit

def natF (f : Nat → Nat → Int) : Nat → Nat → Nat := fun i j => (f i j).toNat
theorem Crn.lower {w : World} {lo lo' m : Nat} {A : Option Addr} {R : List Hdr} (h : Crn w lo A m R) (hl : lo' ≤ lo) : Crn w lo' A m R := by
  refine ⟨h.len, ?_, fun x hx => (h.row x hx).mono hl⟩
  rcases h.top with h0 | ⟨g, cur, e, h1, h2, h3⟩
  · exact .inl h0
  · exact .inr ⟨g, cur, e, by omega, h2, h3⟩
set_option maxRecDepth 100000 in
set_option maxHeartbeats 2000000 in
theorem iNextOf_any (S A B C : Option Addr) (nS cS nA cA nB cB cC : Nat) (s : Nat → Int) (rA rB : Nat → Option Addr × Nat × Nat) (f g : Nat → Nat → Int) (l : List Int) (w : World) (hR : RulAt w S nS s A nA rA f B nB rB g) (hC : Ints w C l.length (fun i => l.getD i 0)) (hl : l.length ≤ 1099511627776) :
    Calls Try.prog 12 #[.agg #[.slice S nS cS, .slice A nA cA, .slice B nB cB], .slice C l.length cC] w fun e w' => ∃ R A0 k, e = .returned (.slice A0 k k) ∧ R.map (·.l) = (if (rulB nS s nA rA f nB rB g && crwB nS l) then nextL (natF f) (natF g) nS l else []) ∧ (R.map (·.g)).Nodup ∧ Crn w' w.heap.size A0 k R ∧ Keeps w w' := by
  have hbS := hR.bS
  cases hv : rulB nS s nA rA f nB rB g && crwB nS l
  · have kb := Keeps.alloc w (.cells #[.slice S nS cS, .slice A nA cA, .slice B nB cB] 26)
    have HB := Lib.hid (Blk.new w #[.slice S nS cS, .slice A nA cA, .slice B nB cB] 26)
    have HR := Lib.hid (hR.keeps kb)
    have HC := Lib.hid (hC.keeps kb)
    have HK := Lib.hid kb
    have hln := hl
    rw [if_neg (by simp)]
    clear hR hC kb
    go_enter Try.func12, Try.ntmps12
    go_wp2_with fail
    generalize w.alloc (.cells #[.slice S nS cS, .slice A nA cA, .slice B nB cB] 26) = w1 at *
    have CV := Lib.hid (crowdOk_any S A B C nS cS nA cA nB cB cC s rA rB f g l w1 HR.out HC.out hln)
    rw [hv] at CV
    refine CV.out.mono ?_
    rintro e w2 ⟨rfl, hk2⟩
    have HKF := Lib.hid (HK.out.step hk2)
    have HB2 := Lib.hid (HB.out.keeps hk2)
    have HR2 := Lib.hid (HR.out.keeps hk2)
    have HC2 := Lib.hid (HC.out.keeps hk2)
    clear hk2 HB HR HC HK
    go_wp2_with fail
    go_ret
    exact ⟨[], none, 0, rfl, rfl, List.nodup_nil, ⟨rfl, .inl rfl, fun h hh => by simp at hh⟩, HKF.out⟩
  · have hv1 := (Bool.and_eq_true_iff.1 hv)
    obtain ⟨h1, h2, hN⟩ := hR.valid hv1.1
    have hW := crwB_iff.1 hv1.2
    have hlen := hW.len
    have HN : Hid (RulN w S nS s A rA (natF f) B rB (natF g)) := Lib.hid hN
    have HW := Lib.hid hW
    have HLN := Lib.hid hlen
    rw [if_pos rfl]
    rw [h1, h2] at hR ⊢
    rw [hlen]
    have kb := Keeps.alloc w (.cells #[.slice S nS cS, .slice A nS cA, .slice B nS cB] 26)
    have HB := Lib.hid (Blk.new w #[.slice S nS cS, .slice A nS cA, .slice B nS cB] 26)
    have HR := Lib.hid (hR.keeps kb)
    have HC := Lib.hid (hC.keeps kb)
    have HK := Lib.hid kb
    have hln := hl
    have hv2 : (rulB nS s nS rA f nS rB g && crwB nS l) = true := by have h := hv; rw [h1, h2] at h; exact h
    clear hN hW
    clear hR hC kb
    go_enter Try.func12, Try.ntmps12
    go_wp2_with fail
    generalize w.alloc (.cells #[.slice S nS cS, .slice A nS cA, .slice B nS cB] 26) = w1 at *
    have CV := Lib.hid (crowdOk_any S A B C nS cS nS cA nS cB cC s rA rB f g l w1 HR.out HC.out hln)
    rw [hv2, hlen] at CV
    clear hv hv1 hv2 h1 h2 hlen hln hl
    refine CV.out.mono ?_
    rintro e w2 ⟨rfl, hk2⟩
    have HKF := Lib.hid (HK.out.step hk2)
    have HB2 := Lib.hid (HB.out.keeps hk2)
    have HR2 := Lib.hid (HR.out.keeps hk2)
    have HC2 := Lib.hid (HC.out.keeps hk2)
    clear hk2 HB HR HC HK
    have d0 : w2.cell? ⟨w.heap.size, 0, none⟩ = some (.slice S nS cS) := HB2.out.cell 0
    have d1 : w2.cell? ⟨w.heap.size, 1, none⟩ = some (.slice A nS cA) := HB2.out.cell 1
    have d2 : w2.cell? ⟨w.heap.size, 2, none⟩ = some (.slice B nS cB) := HB2.out.cell 2
    have HCI : Hid (Ints w2 C nS (fun i => l.getD i 0)) := Lib.hid (by have h := HC2.out; rw [HLN.out] at h; exact h)
    have CX := Lib.hid (nextOf_any S A B C nS cS cA cB cC s rA rB (natF f) (natF g) l w2 (HN.out.keeps HKF.out) HW.out HCI.out)
    have HS : Hid (w.heap.size ≤ w2.heap.size) := Lib.hid HKF.out.size
    go_wp2_with fail
    refine CX.out.mono ?_
    rintro e w9 ⟨R, g1, k, rfl, hc, hn, hm, hk⟩
    have HF := Lib.hid (And.intro hc (And.intro hn (And.intro hm (HKF.out.step hk))))
    clear hc hn hm hk
    go_wp2_with fail
    go_ret
    exact ⟨R, some ⟨g1, 0, none⟩, k, rfl, HF.out.1, HF.out.2.1, HF.out.2.2.1.lower HS.out, HF.out.2.2.2⟩
set_option maxRecDepth 100000 in
set_option maxHeartbeats 2000000 in
theorem sNextOf_any (S A B C : Option Addr) (nS cS nA cA nB cB cC : Nat) (s : Nat → Int) (rA rB : Nat → Option Addr × Nat × Nat) (f g : Nat → Nat → Int) (l : List Int) (w : World) (hR : RulAt w S nS s A nA rA f B nB rB g) (hC : Ints w C l.length (fun i => l.getD i 0)) (hl : l.length ≤ 1099511627776) :
    Calls Try.prog 23 #[.agg #[.slice S nS cS, .slice A nA cA, .slice B nB cB], .slice C l.length cC] w fun e w' => ∃ R A0 k c, e = .returned (.slice A0 k c) ∧ R.map (·.l) = (if (rulB nS s nA rA f nB rB g && crwB nS l) then nextL (natF f) (natF g) nS l else []) ∧ Crn w' w.heap.size A0 k R ∧ Keeps w w' := by
  have hbS := hR.bS
  cases hv0 : rulB nS s nA rA f nB rB g
  · have kb := Keeps.alloc w (.cells #[.slice S nS cS, .slice A nA cA, .slice B nB cB] 26)
    have HB := Lib.hid (Blk.new w #[.slice S nS cS, .slice A nA cA, .slice B nB cB] 26)
    have HR := Lib.hid (hR.keeps kb)
    have HC := Lib.hid (hC.keeps kb)
    have HK := Lib.hid kb
    have hln := hl
    rw [Bool.false_and, if_neg (by simp)]
    clear hR hC kb
    go_enter Try.func23, Try.ntmps23
    go_wp2_with fail
    generalize w.alloc (.cells #[.slice S nS cS, .slice A nA cA, .slice B nB cB] 26) = w1 at *
    have CV := Lib.hid (svalidRules_any S A B nS cS nA cA nB cB s rA rB f g w1 HR.out)
    rw [hv0] at CV
    refine CV.out.mono ?_
    rintro e w2 ⟨rfl, hk2⟩
    have HKF := Lib.hid (HK.out.step hk2)
    have HB2 := Lib.hid (HB.out.keeps hk2)
    have HR2 := Lib.hid (HR.out.keeps hk2)
    have HC2 := Lib.hid (HC.out.keeps hk2)
    clear hk2 HB HR HC HK
    go_wp2_with fail
    go_ret
    exact ⟨[], none, 0, 0, rfl, rfl, ⟨rfl, .inl rfl, fun h hh => by simp at hh⟩, HKF.out⟩
  · cases hv3 : crwB nS l
    · have kb := Keeps.alloc w (.cells #[.slice S nS cS, .slice A nA cA, .slice B nB cB] 26)
      have HB := Lib.hid (Blk.new w #[.slice S nS cS, .slice A nA cA, .slice B nB cB] 26)
      have HR := Lib.hid (hR.keeps kb)
      have HC := Lib.hid (hC.keeps kb)
      have HK := Lib.hid kb
      have hln := hl
      rw [Bool.true_and, if_neg (by simp)]
      clear hR hC kb
      go_enter Try.func23, Try.ntmps23
      go_wp2_with fail
      generalize w.alloc (.cells #[.slice S nS cS, .slice A nA cA, .slice B nB cB] 26) = w1 at *
      have CV := Lib.hid (svalidRules_any S A B nS cS nA cA nB cB s rA rB f g w1 HR.out)
      rw [hv0] at CV
      refine CV.out.mono ?_
      rintro e w2 ⟨rfl, hk2⟩
      have HKF := Lib.hid (HK.out.step hk2)
      have HB2 := Lib.hid (HB.out.keeps hk2)
      have HR2 := Lib.hid (HR.out.keeps hk2)
      have HC2 := Lib.hid (HC.out.keeps hk2)
      clear hk2 HB HR HC HK
      have d0 : w2.cell? ⟨w.heap.size, 0, none⟩ = some (.slice S nS cS) := HB2.out.cell 0
      have d1 : w2.cell? ⟨w.heap.size, 1, none⟩ = some (.slice A nA cA) := HB2.out.cell 1
      have d2 : w2.cell? ⟨w.heap.size, 2, none⟩ = some (.slice B nB cB) := HB2.out.cell 2
      have CW := Lib.hid (validCrowd_any S A B C nS cS nA cA nB cB cC l w2 hbS HC2.out hln)
      rw [hv3] at CW
      go_wp2_with fail
      refine CW.out.mono ?_
      rintro e w3 ⟨rfl, hk3⟩
      have HKG := Lib.hid (HKF.out.step hk3)
      have HB3 := Lib.hid (HB2.out.keeps hk3)
      have HC3 := Lib.hid (HC2.out.keeps hk3)
      clear hk3 HB2 HC2 HKF HR2
      go_wp2_with fail
      go_ret
      exact ⟨[], none, 0, 0, rfl, rfl, ⟨rfl, .inl rfl, fun h hh => by simp at hh⟩, HKG.out⟩
    · have hv : (rulB nS s nA rA f nB rB g && crwB nS l) = true := by rw [hv0, hv3]; rfl
      have hv1 := (Bool.and_eq_true_iff.1 hv)
      obtain ⟨h1, h2, hN⟩ := hR.valid hv1.1
      have hW := crwB_iff.1 hv1.2
      have hlen := hW.len
      have HN : Hid (RulN w S nS s A rA (natF f) B rB (natF g)) := Lib.hid hN
      have HW := Lib.hid hW
      have HLN := Lib.hid hlen
      rw [Bool.true_and, if_pos rfl]
      rw [h1, h2] at hR ⊢
      rw [hlen]
      have kb := Keeps.alloc w (.cells #[.slice S nS cS, .slice A nS cA, .slice B nS cB] 26)
      have HB := Lib.hid (Blk.new w #[.slice S nS cS, .slice A nS cA, .slice B nS cB] 26)
      have HR := Lib.hid (hR.keeps kb)
      have HC := Lib.hid (hC.keeps kb)
      have HK := Lib.hid kb
      have hln := hl
      have hv2 : rulB nS s nS rA f nS rB g = true := by have h := hv0; rw [h1, h2] at h; exact h
      clear hN hW
      clear hR hC kb
      go_enter Try.func23, Try.ntmps23
      go_wp2_with fail
      generalize w.alloc (.cells #[.slice S nS cS, .slice A nS cA, .slice B nS cB] 26) = w1 at *
      have CV := Lib.hid (svalidRules_any S A B nS cS nS cA nS cB s rA rB f g w1 HR.out)
      rw [hv2] at CV
      clear hv hv1 hv0 hv2 h1 h2 hl
      refine CV.out.mono ?_
      rintro e w2 ⟨rfl, hk2⟩
      have HKF := Lib.hid (HK.out.step hk2)
      have HB2 := Lib.hid (HB.out.keeps hk2)
      have HR2 := Lib.hid (HR.out.keeps hk2)
      have HC2 := Lib.hid (HC.out.keeps hk2)
      clear hk2 HB HR HC HK
      have d0 : w2.cell? ⟨w.heap.size, 0, none⟩ = some (.slice S nS cS) := HB2.out.cell 0
      have d1 : w2.cell? ⟨w.heap.size, 1, none⟩ = some (.slice A nS cA) := HB2.out.cell 1
      have d2 : w2.cell? ⟨w.heap.size, 2, none⟩ = some (.slice B nS cB) := HB2.out.cell 2
      have CW := Lib.hid (validCrowd_any S A B C nS cS nS cA nS cB cC l w2 hbS HC2.out hln)
      rw [hv3, hlen] at CW
      clear hv3 hlen hln
      go_wp2_with fail
      refine CW.out.mono ?_
      rintro e w3 ⟨rfl, hk3⟩
      clear d0 d1 d2
      have HKG := Lib.hid (HKF.out.step hk3)
      have HB3 := Lib.hid (HB2.out.keeps hk3)
      have HC3 := Lib.hid (HC2.out.keeps hk3)
      clear hk3 HB2 HC2 HKF HR2
      have d0 : w3.cell? ⟨w.heap.size, 0, none⟩ = some (.slice S nS cS) := HB3.out.cell 0
      have d1 : w3.cell? ⟨w.heap.size, 1, none⟩ = some (.slice A nS cA) := HB3.out.cell 1
      have d2 : w3.cell? ⟨w.heap.size, 2, none⟩ = some (.slice B nS cB) := HB3.out.cell 2
      have HCI : Hid (Ints w3 C nS (fun i => l.getD i 0)) := Lib.hid (by have h := HC3.out; rw [HLN.out] at h; exact h)
      have CX := Lib.hid (snextOf_any S A B C nS cS cA cB cC s rA rB (natF f) (natF g) l w3 (HN.out.keeps HKG.out) HW.out HCI.out)
      have HS : Hid (w.heap.size ≤ w3.heap.size) := Lib.hid HKG.out.size
      go_wp2_with fail
      refine CX.out.mono ?_
      rintro e w9 ⟨R, g1, k, c1, rfl, hc, hm, _, hk⟩
      have HF := Lib.hid (And.intro hc (And.intro hm (HKG.out.step hk)))
      clear hc hm hk
      go_wp2_with fail
      go_ret
      exact ⟨R, some ⟨g1, 0, none⟩, k, c1, rfl, HF.out.1, HF.out.2.1.lower HS.out, HF.out.2.2⟩
set_option maxRecDepth 100000 in
set_option maxHeartbeats 2000000 in
theorem iReachedOf_any (S A B C : Option Addr) (nS cS nA cA nB cB cC : Nat) (s : Nat → Int) (rA rB : Nat → Option Addr × Nat × Nat) (f g : Nat → Nat → Int) (l : List Int) (w : World) (hR : RulAt w S nS s A nA rA f B nB rB g) (hC : Ints w C l.length (fun i => l.getD i 0)) (hl : l.length ≤ 1099511627776) :
    Calls Try.prog 26 #[.agg #[.slice S nS cS, .slice A nA cA, .slice B nB cB], .slice C l.length cC] w fun e w' => ∃ R A0 k, e = .returned (.slice A0 k k) ∧ R.map (·.l) = (if (rulB nS s nA rA f nB rB g && crwB nS l) then rchL (natF f) (natF g) nS l else []) ∧ (R.map (·.g)).Nodup ∧ Crn w' w.heap.size A0 k R ∧ Keeps w w' := by
  have hbS := hR.bS
  cases hv : rulB nS s nA rA f nB rB g && crwB nS l
  · have kb := Keeps.alloc w (.cells #[.slice S nS cS, .slice A nA cA, .slice B nB cB] 26)
    have HB := Lib.hid (Blk.new w #[.slice S nS cS, .slice A nA cA, .slice B nB cB] 26)
    have HR := Lib.hid (hR.keeps kb)
    have HC := Lib.hid (hC.keeps kb)
    have HK := Lib.hid kb
    have hln := hl
    rw [if_neg (by simp)]
    clear hR hC kb
    go_enter Try.func26, Try.ntmps26
    go_wp2_with fail
    generalize w.alloc (.cells #[.slice S nS cS, .slice A nA cA, .slice B nB cB] 26) = w1 at *
    have CV := Lib.hid (crowdOk_any S A B C nS cS nA cA nB cB cC s rA rB f g l w1 HR.out HC.out hln)
    rw [hv] at CV
    refine CV.out.mono ?_
    rintro e w2 ⟨rfl, hk2⟩
    have HKF := Lib.hid (HK.out.step hk2)
    have HB2 := Lib.hid (HB.out.keeps hk2)
    have HR2 := Lib.hid (HR.out.keeps hk2)
    have HC2 := Lib.hid (HC.out.keeps hk2)
    clear hk2 HB HR HC HK
    go_wp2_with fail
    go_ret
    exact ⟨[], none, 0, rfl, rfl, List.nodup_nil, ⟨rfl, .inl rfl, fun h hh => by simp at hh⟩, HKF.out⟩
  · have hv1 := (Bool.and_eq_true_iff.1 hv)
    obtain ⟨h1, h2, hN⟩ := hR.valid hv1.1
    have hW := crwB_iff.1 hv1.2
    have hlen := hW.len
    have HN : Hid (RulN w S nS s A rA (natF f) B rB (natF g)) := Lib.hid hN
    have HW := Lib.hid hW
    have HLN := Lib.hid hlen
    rw [if_pos rfl]
    rw [h1, h2] at hR ⊢
    rw [hlen]
    have kb := Keeps.alloc w (.cells #[.slice S nS cS, .slice A nS cA, .slice B nS cB] 26)
    have HB := Lib.hid (Blk.new w #[.slice S nS cS, .slice A nS cA, .slice B nS cB] 26)
    have HR := Lib.hid (hR.keeps kb)
    have HC := Lib.hid (hC.keeps kb)
    have HK := Lib.hid kb
    have hln := hl
    have hv2 : (rulB nS s nS rA f nS rB g && crwB nS l) = true := by have h := hv; rw [h1, h2] at h; exact h
    clear hN hW
    clear hR hC kb
    go_enter Try.func26, Try.ntmps26
    go_wp2_with fail
    generalize w.alloc (.cells #[.slice S nS cS, .slice A nS cA, .slice B nS cB] 26) = w1 at *
    have CV := Lib.hid (crowdOk_any S A B C nS cS nS cA nS cB cC s rA rB f g l w1 HR.out HC.out hln)
    rw [hv2, hlen] at CV
    clear hv hv1 hv2 h1 h2 hlen hln hl
    refine CV.out.mono ?_
    rintro e w2 ⟨rfl, hk2⟩
    have HKF := Lib.hid (HK.out.step hk2)
    have HB2 := Lib.hid (HB.out.keeps hk2)
    have HR2 := Lib.hid (HR.out.keeps hk2)
    have HC2 := Lib.hid (HC.out.keeps hk2)
    clear hk2 HB HR HC HK
    have d0 : w2.cell? ⟨w.heap.size, 0, none⟩ = some (.slice S nS cS) := HB2.out.cell 0
    have d1 : w2.cell? ⟨w.heap.size, 1, none⟩ = some (.slice A nS cA) := HB2.out.cell 1
    have d2 : w2.cell? ⟨w.heap.size, 2, none⟩ = some (.slice B nS cB) := HB2.out.cell 2
    have HCI : Hid (Ints w2 C nS (fun i => l.getD i 0)) := Lib.hid (by have h := HC2.out; rw [HLN.out] at h; exact h)
    have CX := Lib.hid (reachedOf_any S A B C nS cS cA cB cC s rA rB (natF f) (natF g) l w2 (HN.out.keeps HKF.out) HW.out HCI.out)
    have HS : Hid (w.heap.size ≤ w2.heap.size) := Lib.hid HKF.out.size
    go_wp2_with fail
    refine CX.out.mono ?_
    rintro e w9 ⟨R, g1, k, rfl, hc, _, hn, hm, hk⟩
    have HF := Lib.hid (And.intro hc (And.intro hn (And.intro hm (HKF.out.step hk))))
    clear hc hn hm hk
    go_wp2_with fail
    go_ret
    exact ⟨R, some ⟨g1, 0, none⟩, k, rfl, HF.out.1, HF.out.2.1, HF.out.2.2.1.lower HS.out, HF.out.2.2.2⟩
set_option maxRecDepth 100000 in
set_option maxHeartbeats 2000000 in
theorem sReachedOf_any (S A B C : Option Addr) (nS cS nA cA nB cB cC : Nat) (s : Nat → Int) (rA rB : Nat → Option Addr × Nat × Nat) (f g : Nat → Nat → Int) (l : List Int) (w : World) (hR : RulAt w S nS s A nA rA f B nB rB g) (hC : Ints w C l.length (fun i => l.getD i 0)) (hl : l.length ≤ 1099511627776) :
    Calls Try.prog 27 #[.agg #[.slice S nS cS, .slice A nA cA, .slice B nB cB], .slice C l.length cC] w fun e w' => ∃ R A0 k c, e = .returned (.slice A0 k c) ∧ R.map (·.l) = (if (rulB nS s nA rA f nB rB g && crwB nS l) then rchL (natF f) (natF g) nS l else []) ∧ Crn w' w.heap.size A0 k R ∧ Keeps w w' := by
  have hbS := hR.bS
  cases hv0 : rulB nS s nA rA f nB rB g
  · have kb := Keeps.alloc w (.cells #[.slice S nS cS, .slice A nA cA, .slice B nB cB] 26)
    have HB := Lib.hid (Blk.new w #[.slice S nS cS, .slice A nA cA, .slice B nB cB] 26)
    have HR := Lib.hid (hR.keeps kb)
    have HC := Lib.hid (hC.keeps kb)
    have HK := Lib.hid kb
    have hln := hl
    rw [Bool.false_and, if_neg (by simp)]
    clear hR hC kb
    go_enter Try.func27, Try.ntmps27
    go_wp2_with fail
    generalize w.alloc (.cells #[.slice S nS cS, .slice A nA cA, .slice B nB cB] 26) = w1 at *
    have CV := Lib.hid (svalidRules_any S A B nS cS nA cA nB cB s rA rB f g w1 HR.out)
    rw [hv0] at CV
    refine CV.out.mono ?_
    rintro e w2 ⟨rfl, hk2⟩
    have HKF := Lib.hid (HK.out.step hk2)
    have HB2 := Lib.hid (HB.out.keeps hk2)
    have HR2 := Lib.hid (HR.out.keeps hk2)
    have HC2 := Lib.hid (HC.out.keeps hk2)
    clear hk2 HB HR HC HK
    go_wp2_with fail
    go_ret
    exact ⟨[], none, 0, 0, rfl, rfl, ⟨rfl, .inl rfl, fun h hh => by simp at hh⟩, HKF.out⟩
  · cases hv3 : crwB nS l
    · have kb := Keeps.alloc w (.cells #[.slice S nS cS, .slice A nA cA, .slice B nB cB] 26)
      have HB := Lib.hid (Blk.new w #[.slice S nS cS, .slice A nA cA, .slice B nB cB] 26)
      have HR := Lib.hid (hR.keeps kb)
      have HC := Lib.hid (hC.keeps kb)
      have HK := Lib.hid kb
      have hln := hl
      rw [Bool.true_and, if_neg (by simp)]
      clear hR hC kb
      go_enter Try.func27, Try.ntmps27
      go_wp2_with fail
      generalize w.alloc (.cells #[.slice S nS cS, .slice A nA cA, .slice B nB cB] 26) = w1 at *
      have CV := Lib.hid (svalidRules_any S A B nS cS nA cA nB cB s rA rB f g w1 HR.out)
      rw [hv0] at CV
      refine CV.out.mono ?_
      rintro e w2 ⟨rfl, hk2⟩
      have HKF := Lib.hid (HK.out.step hk2)
      have HB2 := Lib.hid (HB.out.keeps hk2)
      have HR2 := Lib.hid (HR.out.keeps hk2)
      have HC2 := Lib.hid (HC.out.keeps hk2)
      clear hk2 HB HR HC HK
      have d0 : w2.cell? ⟨w.heap.size, 0, none⟩ = some (.slice S nS cS) := HB2.out.cell 0
      have d1 : w2.cell? ⟨w.heap.size, 1, none⟩ = some (.slice A nA cA) := HB2.out.cell 1
      have d2 : w2.cell? ⟨w.heap.size, 2, none⟩ = some (.slice B nB cB) := HB2.out.cell 2
      have CW := Lib.hid (validCrowd_any S A B C nS cS nA cA nB cB cC l w2 hbS HC2.out hln)
      rw [hv3] at CW
      go_wp2_with fail
      refine CW.out.mono ?_
      rintro e w3 ⟨rfl, hk3⟩
      have HKG := Lib.hid (HKF.out.step hk3)
      have HB3 := Lib.hid (HB2.out.keeps hk3)
      have HC3 := Lib.hid (HC2.out.keeps hk3)
      clear hk3 HB2 HC2 HKF HR2
      go_wp2_with fail
      go_ret
      exact ⟨[], none, 0, 0, rfl, rfl, ⟨rfl, .inl rfl, fun h hh => by simp at hh⟩, HKG.out⟩
    · have hv : (rulB nS s nA rA f nB rB g && crwB nS l) = true := by rw [hv0, hv3]; rfl
      have hv1 := (Bool.and_eq_true_iff.1 hv)
      obtain ⟨h1, h2, hN⟩ := hR.valid hv1.1
      have hW := crwB_iff.1 hv1.2
      have hlen := hW.len
      have HN : Hid (RulN w S nS s A rA (natF f) B rB (natF g)) := Lib.hid hN
      have HW := Lib.hid hW
      have HLN := Lib.hid hlen
      rw [Bool.true_and, if_pos rfl]
      rw [h1, h2] at hR ⊢
      rw [hlen]
      have kb := Keeps.alloc w (.cells #[.slice S nS cS, .slice A nS cA, .slice B nS cB] 26)
      have HB := Lib.hid (Blk.new w #[.slice S nS cS, .slice A nS cA, .slice B nS cB] 26)
      have HR := Lib.hid (hR.keeps kb)
      have HC := Lib.hid (hC.keeps kb)
      have HK := Lib.hid kb
      have hln := hl
      have hv2 : rulB nS s nS rA f nS rB g = true := by have h := hv0; rw [h1, h2] at h; exact h
      clear hN hW
      clear hR hC kb
      go_enter Try.func27, Try.ntmps27
      go_wp2_with fail
      generalize w.alloc (.cells #[.slice S nS cS, .slice A nS cA, .slice B nS cB] 26) = w1 at *
      have CV := Lib.hid (svalidRules_any S A B nS cS nS cA nS cB s rA rB f g w1 HR.out)
      rw [hv2] at CV
      clear hv hv1 hv0 hv2 h1 h2 hl
      refine CV.out.mono ?_
      rintro e w2 ⟨rfl, hk2⟩
      have HKF := Lib.hid (HK.out.step hk2)
      have HB2 := Lib.hid (HB.out.keeps hk2)
      have HR2 := Lib.hid (HR.out.keeps hk2)
      have HC2 := Lib.hid (HC.out.keeps hk2)
      clear hk2 HB HR HC HK
      have d0 : w2.cell? ⟨w.heap.size, 0, none⟩ = some (.slice S nS cS) := HB2.out.cell 0
      have d1 : w2.cell? ⟨w.heap.size, 1, none⟩ = some (.slice A nS cA) := HB2.out.cell 1
      have d2 : w2.cell? ⟨w.heap.size, 2, none⟩ = some (.slice B nS cB) := HB2.out.cell 2
      have CW := Lib.hid (validCrowd_any S A B C nS cS nS cA nS cB cC l w2 hbS HC2.out hln)
      rw [hv3, hlen] at CW
      clear hv3 hlen hln
      go_wp2_with fail
      refine CW.out.mono ?_
      rintro e w3 ⟨rfl, hk3⟩
      clear d0 d1 d2
      have HKG := Lib.hid (HKF.out.step hk3)
      have HB3 := Lib.hid (HB2.out.keeps hk3)
      have HC3 := Lib.hid (HC2.out.keeps hk3)
      clear hk3 HB2 HC2 HKF HR2
      have d0 : w3.cell? ⟨w.heap.size, 0, none⟩ = some (.slice S nS cS) := HB3.out.cell 0
      have d1 : w3.cell? ⟨w.heap.size, 1, none⟩ = some (.slice A nS cA) := HB3.out.cell 1
      have d2 : w3.cell? ⟨w.heap.size, 2, none⟩ = some (.slice B nS cB) := HB3.out.cell 2
      have HCI : Hid (Ints w3 C nS (fun i => l.getD i 0)) := Lib.hid (by have h := HC3.out; rw [HLN.out] at h; exact h)
      have CX := Lib.hid (reached_any S A B C nS cS cA cB cC s rA rB (natF f) (natF g) l w3 (HN.out.keeps HKG.out) HW.out HCI.out)
      have HS : Hid (w.heap.size ≤ w3.heap.size) := Lib.hid HKG.out.size
      go_wp2_with fail
      refine CX.out.mono ?_
      rintro e w9 ⟨R, g1, k, c1, rfl, hc, _, hm, _, hk⟩
      have HF := Lib.hid (And.intro hc (And.intro hm (HKG.out.step hk)))
      clear hc hm hk
      go_wp2_with fail
      go_ret
      exact ⟨R, some ⟨g1, 0, none⟩, k, c1, rfl, HF.out.1, HF.out.2.1.lower HS.out, HF.out.2.2⟩
end Go.Proofs.Ytaejakejnllimaa
