/-
  equalInts of the laws on lists (it only reads and draws). Condition: lengths at most 2^40.
-/
import Derived.Test.YtaejakejnllimaaCmp
import Derived.Test.YtaejakejnllimaaEq
import Derived.Lib.SliceRun
import Derived.Deep.QuietTactic
import Derived.BigQuiet
namespace Go.Proofs.Ytaejakejnllimaa
set_option maxRecDepth 100000
set_option linter.unusedVariables false
open Go.RowKit

theorem listsNe (l m : List Int) (h : l.length = m.length) : (!anyB (fun i => l.getD i 0 != m.getD i 0) l.length) = decide (l = m) := by
  by_cases e : l = m
  · subst e
    rw [(anyB_false _ _).2 (fun i _ => by simp)]
    simp
  · have : anyB (fun i => l.getD i 0 != m.getD i 0) l.length = true := by
      cases h2 : anyB (fun i => l.getD i 0 != m.getD i 0) l.length
      · rw [anyB_false] at h2
        refine absurd (List.ext_getElem h fun i h3 h4 => ?_) e
        have := h2 i h3
        simpa [List.getD_eq_getElem?_getD, List.getElem?_eq_getElem h3, List.getElem?_eq_getElem h4] using this
      · rfl
    rw [this]
    simp [e]
set_option maxHeartbeats 400000 in
theorem leIntsQ_any (a b : Option Addr) (c d : Nat) (l m : List Int) (w : World) (hn : l.length ≤ 1099511627776) (hm : m.length ≤ 1099511627776) (hx : Ints w a l.length (fun i => l.getD i 0)) (hy : Ints w b m.length (fun i => m.getD i 0)) :
    Calls Try.prog 24 #[.slice a l.length c, .slice b m.length d] w fun e w' => e = .returned (.bool (decide (l = m))) ∧ ∃ q, w' = w.drewN q := by
  have HX := Lib.hid hx
  have HY := Lib.hid hy
  have HE := Lib.hid (listsNe l m)
  have HE2 : Hid (l.length ≠ m.length → decide (l = m) = false) := Lib.hid (fun h => by simp; intro e; exact h (by rw [e]))
  clear hx hy
  generalize decide (l = m) = V at *
  generalize hx0 : (fun i => l.getD i 0) = x at *
  generalize hy0 : (fun i => m.getD i 0) = y at *
  have hxy : (fun i => l.getD i 0 != m.getD i 0) = fun i => x i != y i := by rw [← hx0, ← hy0]
  rw [hxy] at HE
  clear hxy hx0 hy0
  generalize l.length = n at *
  generalize m.length = k at *
  by_cases hnm : n = k
  · subst hnm
    have hne : ((n : Int) != (n : Int)) = false := by simp
    have HV := Lib.hid (HE.out rfl)
    clear HE HE2
    go_enter Try.func24, Try.ntmps24
    go_wp2
    go_loopw [5] (fun i wr => ∃ k : Nat, k ≤ n ∧ i = .int .i64 k ∧ Hid (anyB (fun i => x i != y i) k = false) ∧ Hid (∃ q, wr = w.drewN q)) (fun i _ => n - (intOf i).toNat)
    case atStart => exact ⟨0, by omega, rfl, Lib.hid rfl, Lib.hid ⟨0, rfl⟩⟩
    case round =>
      obtain ⟨k, hk, rfl, hb, HK⟩ := hrel
      have hK : Keeps w wr := by obtain ⟨q, e⟩ := HK.out; rw [e]; exact Keeps.drewN w q
      by_cases hlt : k < n
      · have hlt' : (k : Int) < n := by omega
        obtain ⟨b1, o1, e1, hc1⟩ := HX.out.keeps hK k hlt
        obtain ⟨b2, o2, e2, hc2⟩ := HY.out.keeps hK k hlt
        subst e1
        subst e2
        clear hK
        have HS := Lib.hid (show anyB (fun i => x i != y i) (k + 1) = (anyB (fun i => x i != y i) k || (x k != y k)) from rfl)
        have HB2 : Hid ((x k != y k) = true → anyB (fun i => x i != y i) n = true) := Lib.hid (fun h => (anyB_iff _ _).2 ⟨k, hlt, h⟩)
        generalize x k = u at *
        generalize y k = v at *
        cases hpk : (u != v)
        · have HP := Lib.hid hpk
          go_wp2_with fail
          go_quiet (fail)
          go_wp2
          go_roundw
          case rel => exact ⟨k + 1, by omega, by go_num, Lib.hid (by rw [HS.out, hb.out, HP.out]; rfl), Lib.hid (by obtain ⟨q, e⟩ := HK.out; exact ⟨q + nq, by rw [e, World.drewN_drewN]⟩)⟩
          case measure => simp [intOf]; omega
        · have HP := Lib.hid hpk
          have HVF : Hid (false = V) := Lib.hid (by rw [← HV.out, HB2.out HP.out]; rfl)
          go_wp2_with fail
          go_quiet (fail)
          go_wp2
          go_ret
          exact ⟨ret_bool HVF.out, by obtain ⟨q, e⟩ := HK.out; exact ⟨q + nq, by rw [e, World.drewN_drewN]⟩⟩
      · obtain rfl : k = n := by omega
        have HVT : Hid (true = V) := Lib.hid (by rw [← HV.out, hb.out]; rfl)
        clear hK
        go_wp2
        go_ret
        exact ⟨ret_bool HVT.out, HK.out⟩
  · have hne : ((n : Int) != (k : Int)) = true := by simp; omega
    have HV := Lib.hid (HE2.out hnm).symm
    clear hnm HE HE2
    go_enter Try.func24, Try.ntmps24
    go_wp2
    go_ret
    exact ⟨ret_bool HV.out, 0, rfl⟩
end Go.Proofs.Ytaejakejnllimaa
