/-
  The walk of FnAreEnough: whatever the code is, it returns true, and nothing that was there turns. No condition.
-/
import Derived.Test.YtepgogaoppdllaaSAre
import Derived.Test.YtepgogaoppdllaaDraw
namespace Go.Proofs.Ytepgogaoppdllaa
open Go.RowKit

/-- What is drawn: three numbers. -/
def Drawn3E (w : World) (e : Ending) (w' : World) : Prop := ∃ n o l : Int, e = .returned (.tuple #[.int .i64 n, .int .i64 o, .int .i64 l]) ∧ Keeps w w'
set_option maxRecDepth 100000 in
set_option maxHeartbeats 2000000 in
theorem drawAreEnough_any (a : Option Addr) (n c : Nat) (w : World) (hB : Bytes w w.heap.size a n) (hn : n ≤ 1099511627776) (hc : n ≤ c) (hc2 : c ≤ 9223372036854775807) :
    Calls Try.prog 31 #[.slice a n c] w (Drawn3E w) := by
  have HB := Lib.hid hB
  clear hB
  go_enter Try.func31, Try.ntmps31
  go_wp2_with fail
  refine (newReader_any a n c _ HB.out hn hc hc2).mono ?_
  rintro e w1 ⟨b, rfl, hR1, hb, hK1⟩
  go_wp2_with fail
  refine (one_lit b 0 [3, 2, 3, 1, 0, 4] 0 10 _ _ _ _ (by decide) (by decide) (by decide) (by omega) hR1 rfl (by simp) rfl).mono ?_
  rintro e w2 ⟨x, rfl, _, _, hR2, hG2⟩
  have hK2 := hG2.keeps (hK1.step (Keeps.alloc _ _)) hb
  clear hG2 hK1
  go_wp2_with fail
  refine (one_lit b 1 [1, 2, 0, 3, -1] (-1) 10 _ _ _ _ (by decide) (by decide) (by decide) (by omega) hR2 rfl (by simp) rfl).mono ?_
  rintro e w3 ⟨y, rfl, _, _, hR3, hG3⟩
  have hK3 := hG3.keeps (hK2.step (Keeps.alloc _ _)) hb
  clear hG3 hK2
  go_wp2_with fail
  refine (one_lit b 2 [1, 2, 0, 3, 4, 5, -1] (-1) 10 _ _ _ _ (by decide) (by decide) (by decide) (by omega) hR3 rfl (by simp) rfl).mono ?_
  rintro e w4 ⟨z, rfl, _, _, hR4, hG4⟩
  have hK4 := hG4.keeps (hK3.step (Keeps.alloc _ _)) hb
  clear hG4 hK3
  go_wp2
  refine bodyPost_ret (v := .tuple #[.int .i64 x, .int .i64 y, .int .i64 z]) (by simp [results, Try.results31, go_sem]) rfl ⟨x, y, z, rfl, hK4⟩
set_option maxRecDepth 100000 in
set_option maxHeartbeats 8000000 in
theorem FnAreEnough_walk (a : Option Addr) (n c : Nat) (w : World) (hB : Bytes w w.heap.size a n) (hc : n ≤ c) (hc2 : c ≤ 9223372036854775807) :
    Calls Try.prog 8 #[.slice a n c] w fun e w' => e = .returned (.bool true) ∧ Keeps w w' := by
  have HB := Lib.hid hB
  clear hB
  by_cases hn : 1048576 < n
  · go_enter Try.func8, Try.ntmps8
    go_wp2
    go_ret
    exact ⟨rfl, Keeps.refl _⟩
  · go_enter Try.func8, Try.ntmps8
    go_wp2_with fail
    refine (drawAreEnough_any a n c _ HB.out (by omega) hc hc2).mono ?_
    rintro e w1 ⟨m, s, R, rfl, hK1⟩
    have HSP := Lib.hid (fun w => sare_any m s R w)
    have HIM := Lib.hid (fun w => areEnough_any m s R w)
    have HLAW : Hid (1 ≤ m → m ≤ 3 → 0 ≤ s → s < m → 0 ≤ R → R ≤ 4 → enoughB m s R = (decide (s < R) || decide (m - 1 ≤ R))) := Lib.hid (fun h1 h2 h3 h4 h5 h6 => by
      unfold enoughB
      rw [inB_mk h1 h2, inB_mk h3 (by omega), inB_mk h5 h6]
      rfl)
    generalize enoughB m s R = b at *
    have hbb : (b != b) = false := by simp
    have hbe : (b == b) = true := by simp
    go_wp2_with fail
    refine (HIM.out _).mono ?_
    rintro e w2 ⟨rfl, hk2⟩
    have hK2 := hK1.step hk2
    clear hK1 hk2
    go_wp2_with fail
    refine (HSP.out _).mono ?_
    rintro e w3 ⟨rfl, hk3⟩
    have hK3 := hK2.step hk3
    clear hK2 hk3
    by_cases h1 : m < 1
    · clear HLAW
      go_wp2_with fail
      refine (HSP.out _).mono ?_
      rintro e w4 ⟨rfl, hk4⟩
      go_wp2
      go_ret
      exact ⟨rfl, hK3.step hk4⟩
    by_cases h2 : 3 < m
    · clear HLAW
      go_wp2_with fail
      refine (HSP.out _).mono ?_
      rintro e w4 ⟨rfl, hk4⟩
      go_wp2
      go_ret
      exact ⟨rfl, hK3.step hk4⟩
    by_cases h3 : s < 0
    · clear HLAW
      go_wp2_with fail
      refine (HSP.out _).mono ?_
      rintro e w4 ⟨rfl, hk4⟩
      go_wp2
      go_ret
      exact ⟨rfl, hK3.step hk4⟩
    by_cases h4 : m ≤ s
    · clear HLAW
      go_wp2_with fail
      refine (HSP.out _).mono ?_
      rintro e w4 ⟨rfl, hk4⟩
      go_wp2
      go_ret
      exact ⟨rfl, hK3.step hk4⟩
    by_cases h5 : R < 0
    · clear HLAW
      go_wp2_with fail
      refine (HSP.out _).mono ?_
      rintro e w4 ⟨rfl, hk4⟩
      go_wp2
      go_ret
      exact ⟨rfl, hK3.step hk4⟩
    by_cases h6 : 4 < R
    · clear HLAW
      go_wp2_with fail
      refine (HSP.out _).mono ?_
      rintro e w4 ⟨rfl, hk4⟩
      go_wp2
      go_ret
      exact ⟨rfl, hK3.step hk4⟩
    have W1 : IntKind.i64.wrap (m - 1) = m - 1 := by rw [IntKind.wrap_i64]; omega
    have HB2 := Lib.hid (HLAW.out (by omega) (by omega) (by omega) (by omega) (by omega) (by omega))
    clear HLAW HSP HIM
    by_cases h7 : s < R
    · obtain rfl : b = true := by rw [HB2.out]; simp [h7]
      clear HB2
      go_wp2
      go_ret
      exact ⟨rfl, hK3⟩
    by_cases h8 : m - 1 ≤ R
    · obtain rfl : b = true := by rw [HB2.out]; simp [h8]
      clear HB2
      go_wp2
      go_ret
      exact ⟨rfl, hK3⟩
    · obtain rfl : b = false := by rw [HB2.out]; simp [h7, h8]
      clear HB2
      go_wp2
      go_ret
      exact ⟨ret_bool (by simp [h7, h8]), hK3⟩
end Go.Proofs.Ytepgogaoppdllaa
