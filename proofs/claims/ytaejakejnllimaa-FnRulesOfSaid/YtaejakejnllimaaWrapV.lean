/-
  SteadyOf of both, for any rules and numbers, and the program's VerdictOf. Conditions: bounds on lengths.
-/
import Derived.Test.YtaejakejnllimaaVerdS
import Derived.Test.YtaejakejnllimaaWrap
namespace Go.Proofs.Ytaejakejnllimaa
set_option maxRecDepth 100000
set_option linter.unusedVariables false
open Go.RowKit

set_option maxRecDepth 100000 in
set_option maxHeartbeats 2000000 in
theorem iVerdictOf_any (S A B C : Option Addr) (nS cS nA cA nB cB cC : Nat) (s : Nat → Int) (rA rB : Nat → Option Addr × Nat × Nat) (f g : Nat → Nat → Int) (l : List Int) (w : World) (hR : RulAt w S nS s A nA rA f B nB rB g) (hC : Ints w C l.length (fun i => l.getD i 0)) (hl : l.length ≤ 1099511627776) :
    Calls Try.prog 10 #[.agg #[.slice S nS cS, .slice A nA cA, .slice B nB cB], .slice C l.length cC] w fun e w' => e = .returned (.int .i64 (if (rulB nS s nA rA f nB rB g && crwB nS l) then verd (natF f) (natF g) nS s l else -1)) ∧ Keeps w w' := by
  have hbS := hR.bS
  cases hv : rulB nS s nA rA f nB rB g && crwB nS l
  · have kb := Keeps.alloc w (.cells #[.slice S nS cS, .slice A nA cA, .slice B nB cB] 26)
    have HB := Lib.hid (Blk.new w #[.slice S nS cS, .slice A nA cA, .slice B nB cB] 26)
    have HR := Lib.hid (hR.keeps kb)
    have HC := Lib.hid (hC.keeps kb)
    have HK := Lib.hid kb
    have hln := hl
    rw [if_neg (by simp)]
    clear hR hC kb
    go_enter Try.func10, Try.ntmps10
    go_wp2_with fail
    generalize w.alloc (.cells #[.slice S nS cS, .slice A nA cA, .slice B nB cB] 26) = w1 at *
    have CV := Lib.hid (crowdOk_any S A B C nS cS nA cA nB cB cC s rA rB f g l w1 HR.out HC.out hln)
    rw [hv] at CV
    refine CV.out.mono ?_
    rintro e w2 ⟨rfl, hk2⟩
    have HKF := Lib.hid (HK.out.step hk2)
    have HB2 := Lib.hid (HB.out.keeps hk2)
    have HR2 := Lib.hid (HR.out.keeps hk2)
    have HC2 := Lib.hid (HC.out.keeps hk2)
    clear hk2 HB HR HC HK
    go_wp2_with fail
    go_ret
    exact ⟨rfl, HKF.out⟩
  · have hv1 := (Bool.and_eq_true_iff.1 hv)
    obtain ⟨h1, h2, hN⟩ := hR.valid hv1.1
    have hW := crwB_iff.1 hv1.2
    have hlen := hW.len
    have HN : Hid (RulN w S nS s A rA (natF f) B rB (natF g)) := Lib.hid hN
    have HW := Lib.hid hW
    have HLN := Lib.hid hlen
    rw [if_pos rfl]
    rw [h1, h2] at hR ⊢
    rw [hlen]
    have kb := Keeps.alloc w (.cells #[.slice S nS cS, .slice A nS cA, .slice B nS cB] 26)
    have HB := Lib.hid (Blk.new w #[.slice S nS cS, .slice A nS cA, .slice B nS cB] 26)
    have HR := Lib.hid (hR.keeps kb)
    have HC := Lib.hid (hC.keeps kb)
    have HK := Lib.hid kb
    have hln := hl
    have hv2 : (rulB nS s nS rA f nS rB g && crwB nS l) = true := by have h := hv; rw [h1, h2] at h; exact h
    clear hN hW
    clear hR hC kb
    go_enter Try.func10, Try.ntmps10
    go_wp2_with fail
    generalize w.alloc (.cells #[.slice S nS cS, .slice A nS cA, .slice B nS cB] 26) = w1 at *
    have CV := Lib.hid (crowdOk_any S A B C nS cS nS cA nS cB cC s rA rB f g l w1 HR.out HC.out hln)
    rw [hv2, hlen] at CV
    clear hv hv1 hv2 h1 h2 hlen hln hl
    refine CV.out.mono ?_
    rintro e w2 ⟨rfl, hk2⟩
    have HKF := Lib.hid (HK.out.step hk2)
    have HB2 := Lib.hid (HB.out.keeps hk2)
    have HR2 := Lib.hid (HR.out.keeps hk2)
    have HC2 := Lib.hid (HC.out.keeps hk2)
    clear hk2 HB HR HC HK
    have d0 : w2.cell? ⟨w.heap.size, 0, none⟩ = some (.slice S nS cS) := HB2.out.cell 0
    have d1 : w2.cell? ⟨w.heap.size, 1, none⟩ = some (.slice A nS cA) := HB2.out.cell 1
    have d2 : w2.cell? ⟨w.heap.size, 2, none⟩ = some (.slice B nS cB) := HB2.out.cell 2
    have HCI : Hid (Ints w2 C nS (fun i => l.getD i 0)) := Lib.hid (by have h := HC2.out; rw [HLN.out] at h; exact h)
    have CX := Lib.hid (verdictOf_any S A B C nS cS cA cB cC s rA rB (natF f) (natF g) l w2 (HN.out.keeps HKF.out) HW.out HCI.out)
    have HS : Hid (w.heap.size ≤ w2.heap.size) := Lib.hid HKF.out.size
    go_wp2_with fail
    refine CX.out.mono ?_
    rintro e w9 ⟨rfl, hk⟩
    have HF := Lib.hid (HKF.out.step hk)
    clear hk
    go_wp2_with fail
    go_ret
    exact ⟨rfl, HF.out⟩
end Go.Proofs.Ytaejakejnllimaa
