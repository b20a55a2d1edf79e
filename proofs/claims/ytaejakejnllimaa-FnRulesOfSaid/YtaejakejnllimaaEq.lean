/-
  Equal lists, and equal views, are found equal. Condition: lengths at most 2^40.
-/
import Derived.Test.YtaejakejnllimaaAid
import Derived.Test.YtaejakejnllimaaRows
import Derived.Deep.QuietTactic
import Derived.BigQuiet
import Derived.Deep.RegionHeld3
namespace Go.Proofs.Ytaejakejnllimaa
open Go.RowKit

set_option maxHeartbeats 1000000 in
theorem eInts_true (a b : Option Addr) (n c d : Nat) (x y : Nat → Int) (w : World) (hn : n ≤ 1099511627776) (hx : Ints w a n x) (hy : Ints w b n y) (he : ∀ i, i < n → x i = y i) :
    Calls Try.prog 24 #[.slice a n c, .slice b n d] w fun e w' => e = .returned (.bool true) ∧ Keeps w w' := by
  have HX := Lib.hid hx
  have HY := Lib.hid hy
  have HE := Lib.hid he
  clear hx hy he
  have hne : ((n : Int) != (n : Int)) = false := by simp
  go_enter Try.func24, Try.ntmps24
  go_wp2_with fail
  go_loopw [5] (fun i wr => ∃ k : Nat, k ≤ n ∧ i = .int .i64 k ∧ Keeps w wr) (fun i _ => n - (intOf i).toNat)
  case atStart => exact ⟨0, by omega, rfl, Keeps.refl _⟩
  case round =>
    obtain ⟨k, hk, rfl, hK⟩ := hrel
    by_cases hlt : k < n
    · have hlt' : (k : Int) < n := by omega
      obtain ⟨d1, o1, e1, h1⟩ := HX.out k hlt
      obtain ⟨d2, o2, e2, h2⟩ := HY.out k hlt
      subst e1
      subst e2
      have h1' := cell_keeps hK h1
      have h2' := cell_keeps hK h2
      have hE := HE.out k hlt
      rw [← hE] at h2'
      have hq : (x k != x k) = false := by simp
      clear h1 h2 hE
      go_wp2_with fail
      go_quiet (fail)
      go_wp2
      go_roundw
      case rel => exact ⟨k + 1, by omega, by go_num, hK.step (Keeps.drewN _ _)⟩
      case measure => first | (simp [intOf]; done) | (simp [intOf]; omega)
    · have : k = n := by omega
      subst this
      go_wp2
      go_ret
      exact ⟨rfl, hK⟩
set_option maxHeartbeats 1000000 in
theorem eRows_true (A B : Option Addr) (n c d : Nat) (r r' : Nat → Option Addr × Nat × Nat) (x y : Nat → Nat → Int) (w : World) (hn : n ≤ 1099511627776) (hx : Rows w A n r x) (hy : Rows w B n r' y) (hl : ∀ i, i < n → (r i).2.1 ≤ 1099511627776) (he : ∀ i, i < n → (r i).2.1 = (r' i).2.1 ∧ ∀ j, j < (r i).2.1 → x i j = y i j) :
    Calls Try.prog 22 #[.slice A n c, .slice B n d] w fun e w' => e = .returned (.bool true) ∧ Keeps w w' := by
  have HX := Lib.hid hx
  have HY := Lib.hid hy
  have HE := Lib.hid he
  have HL := Lib.hid hl
  clear hx hy he hl
  have hne : ((n : Int) != (n : Int)) = false := by simp
  go_enter Try.func22, Try.ntmps22
  go_wp2_with fail
  go_loopw [5] (fun i wr => ∃ k : Nat, k ≤ n ∧ i = .int .i64 k ∧ Keeps w wr) (fun i _ => n - (intOf i).toNat)
  case atStart => exact ⟨0, by omega, rfl, Keeps.refl _⟩
  case round =>
    obtain ⟨k, hk, rfl, hK⟩ := hrel
    by_cases hlt : k < n
    · have hlt' : (k : Int) < n := by omega
      obtain ⟨⟨d1, o1, e1, h1⟩, i1⟩ := HX.out k hlt
      obtain ⟨⟨d2, o2, e2, h2⟩, i2⟩ := HY.out k hlt
      subst e1
      subst e2
      have h1' := cell_keeps hK h1
      have h2' := cell_keeps hK h2
      obtain ⟨e3, e4⟩ := HE.out k hlt
      have hlk := HL.out k hlt
      generalize r k = rk at *
      generalize r' k = rk' at *
      obtain ⟨ra, rn, rc⟩ := rk
      obtain ⟨ra', rn', rc'⟩ := rk'
      dsimp only at *
      subst e3
      have HI := Lib.hid i1
      have HI2 := Lib.hid i2
      have H4 := Lib.hid e4
      clear h1 h2 i1 i2 e4
      go_wp2_with fail
      go_region_held3 (fun w' => w'.cell? ⟨d1, o1 + k, none⟩ = some (.slice ra rn rc) ∧ w'.cell? ⟨d2, o2 + k, none⟩ = some (.slice ra' rn rc') ∧ Keeps wr w') (first | exact ⟨cell_keeps hk5 g0, cell_keeps hk5 g1, g2.step hk5⟩ | exact ⟨h1', h2', Keeps.drew1 _⟩) (first | (go_at_call 24; obtain ⟨g0, g1, g2⟩ : _ ∧ _ ∧ Keeps wr _ := (by assumption); refine (eInts_true ra ra' rn rc rc' (x k) (y k) _ hlk ((HI.out.keeps hK).keeps g2) ((HI2.out.keeps hK).keeps g2) H4.out).mono ?_; rintro e w5 ⟨rfl, hk5⟩))
      go_wp2
      go_roundw
      case rel => exact ⟨k + 1, by omega, by go_num, hK.step (g2.step hk5)⟩
      case measure => first | (simp [intOf]; done) | (simp [intOf]; omega)
    · have : k = n := by omega
      subst this
      go_wp2
      go_ret
      exact ⟨rfl, hK⟩
end Go.Proofs.Ytaejakejnllimaa
