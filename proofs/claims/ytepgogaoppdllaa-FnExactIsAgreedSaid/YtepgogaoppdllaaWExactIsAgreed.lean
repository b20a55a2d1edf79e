/-
  The walk of FnExactIsAgreed: whatever the run and the rounds are, it returns true, and nothing that was there turns. No condition.
-/
import Derived.Test.YtepgogaoppdllaaWExact
import Derived.Test.YtepgogaoppdllaaAgreed
namespace Go.Proofs.Ytepgogaoppdllaa
open Go.RowKit

set_option maxRecDepth 100000 in
set_option maxHeartbeats 8000000 in
theorem FnExactIsAgreed_walk (A S : Option Addr) (n c m d : Nat) (x : Nat → Int) (st : Nat → Int × Int × Int) (r : Int) (w : World) (hI : Ints w A n x) (hS : Stops w S m st) (hn : n ≤ 9223372036854775807) (hm : m ≤ 9223372036854775807) :
    Calls Try.prog 12 #[.agg #[.slice A n c, .slice S m d], .int .i64 r] w fun e w' => e = .returned (.bool true) ∧ Keeps w w' := by
  have HI := Lib.hid hI
  have HS := Lib.hid hS
  clear hI hS
  go_enter Try.func12, Try.ntmps12
  go_wp2_with fail
  refine (szRun_any A S n c m d _ hn hm).mono ?_
  rintro e w1 ⟨rfl, hk1⟩
  have hBa := (Blk.new w #[.slice A n c, .slice S m d] 43).keeps hk1
  have hK1 := (Keeps.alloc w (.cells #[.slice A n c, .slice S m d] 43)).step hk1
  clear hk1
  have a10 : w1.cell? ⟨w.heap.size, 0, none⟩ = some (.slice A n c) := hBa.cell 0
  have a11 : w1.cell? ⟨w.heap.size, 1, none⟩ = some (.slice S m d) := hBa.cell 1
  have zBa := hBa.lt
  clear hBa
  by_cases hsz : szRunI n m < 0
  · generalize szRunI n m = z at *
    go_wp2
    go_ret
    exact ⟨rfl, hK1⟩
  · obtain ⟨hn2, hm2⟩ := szRunI_ok (show 0 ≤ szRunI n m by omega)
    generalize szRunI n m = z at *
    have HI1 := Lib.hid (HI.out.keeps hK1)
    have HS1 := Lib.hid (HS.out.keeps hK1)
    clear HI HS
    go_wp2_with fail
    refine (toRun_any A S n c m d x st _ (by omega) (by omega) HI1.out HS1.out).mono ?_
    rintro e w2 ⟨g1, h1, z1, rfl, hO1, hZ1, hR1, hk2⟩
    have hi1 := ints_il hO1
    have hs1 := stops_of hZ1 hR1
    go_wp2_with fail
    refine (sisAgreed_any _ _ n n m m r x st _ (by omega) (by omega) hi1 hs1).mono ?_
    rintro e w3 ⟨rfl, hk3⟩
    have hK13 := hk2.step hk3
    have a30 := cell_keeps hK13 a10
    have a31 := cell_keeps hK13 a11
    have HI3 := Lib.hid (HI1.out.keeps hK13)
    have HS3 := Lib.hid (HS1.out.keeps hK13)
    have hK3 := hK1.step hK13
    have hz13 := hK13.size
    clear hi1 hs1 hO1 hZ1 hR1 hK13 hk2 hk3 HI1 HS1 hK1 a10 a11
    have hne : (isAgr n x m st r != isAgr n x m st r) = false := by simp
    go_wp2_with fail
    refine (toRun_any A S n c m d x st _ (by omega) (by omega) HI3.out HS3.out).mono ?_
    rintro e w4 ⟨g2, h2, z2, rfl, hO2, hZ2, hR2, hk4⟩
    have a40 := cell_keeps hk4 a30
    have a41 := cell_keeps hk4 a31
    have kx := Keeps.alloc w4 (.cells #[.slice (some ⟨g2, 0, none⟩) n n, .slice (some ⟨h2, 0, none⟩) m m] 26)
    have hBx := Blk.new w4 #[.slice (some ⟨g2, 0, none⟩) n n, .slice (some ⟨h2, 0, none⟩) m m] 26
    have HI4 := Lib.hid (HI3.out.keeps hk4)
    have HS4 := Lib.hid (HS3.out.keeps hk4)
    have hK4 := hK3.step hk4
    have HX := Lib.hid (ints_il hO2)
    have HY := Lib.hid (stops_of hZ2 hR2)
    clear HI3 HS3 hk4 a30 a31 hO2 hZ2 hR2 hK3
    go_wp2_with fail
    generalize hX : w4.heap.size = X at *
    clear hX
    refine (isAgreed_any _ _ n n m m r x st _ (by omega) (by omega) (HX.out.keeps kx) (HY.out.keeps kx)).mono ?_
    rintro e w6 ⟨rfl, hk5⟩
    have kk5 := kx.step hk5
    have hB5 : Blk w6 X 26 #[.slice (some ⟨g2, 0, none⟩) n n, .slice (some ⟨h2, 0, none⟩) m m] := hBx.keeps hk5
    have a60 := cell_keeps kk5 a40
    have a61 := cell_keeps kk5 a41
    have hK6 := hK4.step kk5
    have HI6 := Lib.hid (HI4.out.keeps kk5)
    have HS6 := Lib.hid (HS4.out.keeps kk5)
    have HX6 := Lib.hid (HX.out.keeps kk5)
    have HY6 := Lib.hid (HY.out.keeps kk5)
    have x60 : w6.cell? ⟨X, 0, none⟩ = some (.slice (some ⟨g2, 0, none⟩) n n) := hB5.cell 0
    have x61 : w6.cell? ⟨X, 1, none⟩ = some (.slice (some ⟨h2, 0, none⟩) m m) := hB5.cell 1
    clear hBx a40 a41 HI4 HS4 hK4 kx hk5 kk5 hB5 HX HY
    go_wp2_with fail
    go_region_held3 (fun w' => w'.cell? ⟨w.heap.size, 0, none⟩ = some (.slice A n c) ∧ w'.cell? ⟨w.heap.size, 1, none⟩ = some (.slice S m d) ∧ w'.cell? ⟨X, 0, none⟩ = some (.slice (some ⟨g2, 0, none⟩) n n) ∧ w'.cell? ⟨X, 1, none⟩ = some (.slice (some ⟨h2, 0, none⟩) m m) ∧ Keeps w6 w') (first | exact ⟨cell_keeps hk7 q0, cell_keeps hk7 q1, cell_keeps hk7 q2, cell_keeps hk7 q3, q4.step hk7⟩ | exact ⟨cell_keeps hk8 q0, cell_keeps hk8 q1, cell_keeps hk8 q2, cell_keeps hk8 q3, q4.step hk8⟩ | exact ⟨a60, a61, x60, x61, Keeps.drew1 _⟩) (first | (go_at_call 33; obtain ⟨q0, q1, q2, q3, q4⟩ : _ ∧ _ ∧ _ ∧ _ ∧ Keeps w6 _ := (by assumption); refine (toRun_any A S n c m d x st _ (by omega) (by omega) (HI6.out.keeps q4) (HS6.out.keeps q4)).mono ?_; rintro e w7 ⟨g3, h3, z3, rfl, hO3, hZ3, hR3, hk7⟩; have HO3 := Lib.hid (ints_il hO3); have HZ3 := Lib.hid (stops_of hZ3 hR3); clear hO3 hZ3 hR3) | (go_at_call 34; obtain ⟨q0, q1, q2, q3, q4⟩ : _ ∧ _ ∧ _ ∧ _ ∧ Keeps w6 _ := (by assumption); refine (xRun_true _ _ _ _ n n n m m m x x st st _ (by omega) (by omega) (HX6.out.keeps q4) HO3.out (fun _ _ => rfl) (HY6.out.keeps q4) HZ3.out (fun _ _ => rfl)).mono ?_; rintro e w8 ⟨rfl, hk8⟩))
    have K8 := q4.step hk8
    go_wp2
    go_ret
    exact ⟨rfl, hK6.step K8⟩
end Go.Proofs.Ytepgogaoppdllaa
