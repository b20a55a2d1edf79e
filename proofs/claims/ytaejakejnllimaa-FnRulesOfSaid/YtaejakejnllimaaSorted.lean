/-
  impl.sorted: lists in order, each once. Condition: lengths at most 100000.
-/
import Derived.Test.YtaejakejnllimaaCompact
import Derived.Shelf.SlSortCmp.NoneTotal
namespace Go.Proofs.Ytaejakejnllimaa
set_option maxRecDepth 100000
set_option linter.unusedVariables false
open Go.RowKit

theorem slClipL_any (g n c : Nat) (w : World) (hn : n ≤ c) (hc : c ≤ 9223372036854775807) :
    Calls Try.prog 75 #[.slice (some ⟨g, 0, none⟩) n c] w fun e w' => e = .returned (.slice (some ⟨g, 0, none⟩) n n) ∧ w = w' := by
  go_enter Try.func75, Try.ntmps75
  go_wp2
  go_ret
  exact ⟨rfl, rfl⟩
theorem sort_none (p : Option Addr) (c : Nat) (w : World) : Calls Try.prog 79 #[.slice p 0 c, .func (.func 80) #[] #[]] w fun e w' => e = .returned (.tuple #[]) ∧ w' = w :=
  AnyF.slices_SortFunc_none { sortL with } p c _ w
/-- What sorted returns: own lists in order, each once, out of those that were there. -/
theorem sorted_any (g m c lo : Nat) (R : List Hdr) (w w0 : World) (hR : Crd w lo (some ⟨g, 0, none⟩) m c R) (hm2 : m ≤ 100000) (hl : ∀ h ∈ R, h.l.length ≤ 1000) (hw0 : Keeps w0 w) (hlo : w0.heap.size ≤ lo) (hap : (R.map (·.g)).Nodup) :
    Calls Try.prog 65 #[.slice (some ⟨g, 0, none⟩) m c] w fun e w' => ∃ R' k, e = .returned (.slice (some ⟨g, 0, none⟩) k k) ∧ R'.map (·.l) = canL (R.map (·.l)) ∧ (R'.map (·.g)).Nodup ∧ (∀ h ∈ R', h ∈ R) ∧ Crn w' lo (some ⟨g, 0, none⟩) k R' ∧ Keeps w0 w' := by
  have CS : Hid (Calls Try.prog 79 #[.slice (some ⟨g, 0, none⟩) m c, .func (.func 80) #[] #[]] w fun e w' => e = .returned (.tuple #[]) ∧ ∃ R', R'.Perm R ∧ Crd w' lo (some ⟨g, 0, none⟩) m c R' ∧ R'.Pairwise (fun x y => ltL y.l x.l = false) ∧ Keeps w0 w') := Lib.hid (by
    by_cases hm : 1 ≤ m
    · refine (sort_any g m c lo R w hR hm hm2 hl).mono ?_
      rintro e w' ⟨h1, R', h2, h3, h4, h5⟩
      exact ⟨h1, R', h2, h3, h4, hw0.grown hR.top hlo h5⟩
    · obtain rfl : m = 0 := by omega
      refine (sort_none _ c w).mono ?_
      rintro e w' ⟨h1, rfl⟩
      have h0 : R = [] := List.eq_nil_of_length_eq_zero hR.len
      exact ⟨h1, R, List.Perm.refl _, hR, by rw [h0]; exact List.Pairwise.nil, hw0⟩)
  have HL := Lib.hid hl
  have HAP := Lib.hid hap
  obtain ⟨_, _, _, hmc, hcm, _, _⟩ := hR.top_blk
  have hcx : c ≤ 9223372036854775807 := by unfold maxLen at hcm; omega
  clear hR hl hw0 hap hmc hcm
  go_enter Try.func65, Try.ntmps65
  go_wp2_with fail
  refine CS.out.mono ?_
  rintro e w1 ⟨rfl, R1, hp, hR1, hw1, hk1⟩
  have HP := Lib.hid hp
  have HR1 := Lib.hid hR1
  have HW1 := Lib.hid hw1
  have HK1 := Lib.hid hk1
  clear hp hR1 hw1 hk1 CS
  go_wp2_with fail
  refine (compactF_any g m c lo R1 w1 w0 HR1.out hm2 (fun h hh => HL.out h (HP.out.mem_iff.1 hh)) HK1.out hlo).mono ?_
  rintro e w2 ⟨R2, k, rfl, hs2, hc2, hR2, hkc, hk2⟩
  have HS2 := Lib.hid hs2
  have HC2 := Lib.hid hc2
  have HR2 := Lib.hid hR2
  have HK2 := Lib.hid hk2
  clear hs2 hc2 hR2 hk2
  go_wp2_with fail
  refine (slClipL_any g k c w2 hkc hcx).mono ?_
  rintro e w3 ⟨rfl, rfl⟩
  go_wp2_with fail
  go_ret
  refine ⟨R2, k, rfl, ?_, ?_, fun h hh => HP.out.mem_iff.1 (HS2.out.subset hh), HR2.out, HK2.out⟩
  · rw [HC2.out]
    refine compL_can ?_ (HP.out.map _)
    exact List.pairwise_map.2 HW1.out
  · exact (HS2.out.map _).nodup ((HP.out.map _).nodup_iff.2 HAP.out)
end Go.Proofs.Ytaejakejnllimaa
