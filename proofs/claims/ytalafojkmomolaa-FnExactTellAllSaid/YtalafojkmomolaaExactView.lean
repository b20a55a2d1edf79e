/-
  The contracts of the exact laws' words on views: szView, toView, markView, heldView. Conditions: bounds on lengths and numbers.
-/
import Derived.Test.YtalafojkmomolaaExactSS
namespace Go.Proofs.Ytalafojkmomolaa
open Go.RowKit

set_option maxHeartbeats 1000000 in
theorem szView_any (A : Option Addr) (n c : Nat) (W : Int) (r : Nat → Option Addr × Nat × Nat) (x : Nat → Nat → Int) (w : World) (hn : n ≤ 9223372036854775807) (hr : Rows w A n r x) (hl : ∀ i, i < n → (r i).2.1 ≤ 9223372036854775807) :
    Calls Try.prog 16 #[.agg #[.int .i64 W, .slice A n c], .int .i64 1048576] w fun e w' => (∃ v : Int, e = .returned (.int .i64 v) ∧ (v = -1 ∨ (0 ≤ v ∧ v = 1048576 - n - (sumTo (fun i => (r i).2.1) n : Nat)))) ∧ Keeps w w' := by
  have kk := Keeps.alloc w (.cells #[.int .i64 W, .slice A n c] 32)
  have CS := Lib.hid (szMat_any A n c r x 1048576 _ hn (by omega) (by omega) (hr.keeps kk) hl)
  clear hr hl
  go_enter Try.func16, Try.ntmps16
  go_wp2_with fail
  refine CS.out.mono ?_
  rintro e w1 ⟨⟨v, rfl, hv⟩, rfl⟩
  have HV := Lib.hid hv
  by_cases h : v < 0
  · clear hv
    go_wp2
    go_ret
    exact ⟨⟨-1, rfl, .inl rfl⟩, kk⟩
  · clear hv
    go_wp2
    go_ret
    exact ⟨⟨v, rfl, HV.out⟩, kk⟩
set_option maxRecDepth 100000 in
set_option maxHeartbeats 2000000 in
theorem toView_any (A : Option Addr) (n c : Nat) (W : Int) (r : Nat → Option Addr × Nat × Nat) (x : Nat → Nat → Int) (w : World) (hn : n ≤ 1099511627776) (hr : Rows w A n r x) (hl : ∀ i, i < n → (r i).2.1 ≤ 1099511627776) :
    Calls Try.prog 18 #[.agg #[.int .i64 W, .slice A n c]] w fun e w' => ∃ (g : Nat) (G : Nat → Nat), e = .returned (.agg #[.int .i64 W, .slice (some ⟨g, 0, none⟩) n n]) ∧ OwnMat w' w.heap.size (some ⟨g, 0, none⟩) n n (fun i => some ⟨G i, 0, none⟩) (fun i => (r i).2.1) (fun i => (r i).2.1) x ∧ Keeps w w' := by
  have HR := Lib.hid hr
  have HL := Lib.hid hl
  clear hr hl
  have kA := Keeps.alloc w (.cells #[.int .i64 W, .slice A n c] 32)
  have kB := kA.step (Keeps.alloc _ (.cells #[.int .i64 0, .slice none 0 0] 25))
  have kC := kB.step (Keeps.alloc _ (.cells #[.int .i64 W, .slice none 0 0] 25))
  go_enter Try.func18, Try.ntmps18
  go_wp2_with fail
  refine (toMat_any A n c r x _ hn (HR.out.keeps kC) HL.out).mono ?_
  rintro e w1 ⟨g, G, rfl, hM, hk1⟩
  have hB1 : Blk w1 (w.heap.size + 1) 25 #[.int .i64 0, .slice none 0 0] := (Blk.keeps (blk_at (by simp) (Blk.new (w.alloc (.cells #[.int .i64 W, .slice A n c] 32)) _ _)) (Keeps.alloc _ _)).keeps hk1
  have hB2 : Blk w1 (w.heap.size + 1 + 1) 25 #[.int .i64 W, .slice none 0 0] := Blk.keeps (blk_at (by simp) (Blk.new ((w.alloc (.cells #[.int .i64 W, .slice A n c] 32)).alloc (.cells #[.int .i64 0, .slice none 0 0] 25)) _ _)) hk1
  have b20 : w1.cell? ⟨w.heap.size + 1 + 1, 0, none⟩ = some (.int .i64 W) := hB2.cell 0
  have b21 : w1.cell? ⟨w.heap.size + 1 + 1, 1, none⟩ = some (.slice none 0 0) := hB2.cell 1
  have f21 := hB2.frozen 1
  have b10 : w1.cell? ⟨w.heap.size + 1, 0, none⟩ = some (.int .i64 0) := hB1.cell 0
  have b11 : w1.cell? ⟨w.heap.size + 1, 1, none⟩ = some (.slice none 0 0) := hB1.cell 1
  have f10 := hB1.frozen 0
  have f11 := hB1.frozen 1
  have HM := Lib.hid (hM.mono (lo' := w.heap.size) kC.size)
  have HB1 := Lib.hid hB1
  have HB2 := Lib.hid hB2
  have HK := Lib.hid (kC.step hk1)
  clear hM hB1 hB2 hk1
  go_wp2
  have z1 := HB2.out.set 1 (.slice (some ⟨g, 0, none⟩) n n)
  have y1 := HB1.out.set_other ⟨w.heap.size + 1 + 1, 1, none⟩ (.slice (some ⟨g, 0, none⟩) n n) (by simp)
  have y2 := y1.set 0 (.int .i64 W)
  refine bodyPost_ret (v := .agg #[.int .i64 W, .slice (some ⟨g, 0, none⟩) n n]) (by simp [results, Try.results18, go_sem, b10, b11]) rfl ⟨g, G, rfl, ?_, ?_⟩
  · exact ((mat_set HM.out HB2.out (by decide) (by decide) 1 _ |> fun m1 => mat_set m1 y1 (by decide) (by decide) 0 _) |> fun m2 => mat_set m2 y2 (by decide) (by decide) 1 _)
  · exact ((HK.out.setCell (by simp; omega) _).setCell (by simp) _).setCell (by simp) _
set_option maxHeartbeats 1000000 in
theorem markView_any (lo hi n c0 : Nat) (W : Int) (A0 : Option Addr) (A : Nat → Option Addr) (Ln Cp : Nat → Nat) (X : Nat → Nat → Int) (w : World) (hn : n ≤ 1048576) (hs : sumTo Ln n ≤ 1048576) (hO : OwnMat w lo A0 n c0 A Ln Cp X) (hG : ∀ i, i < n → ∀ d, (A i).map (·.block) = some d → d < hi) :
    Calls Try.prog 21 #[.agg #[.int .i64 W, .slice A0 n c0], .int .i64 1] w fun e w' => e = .returned (.int .i64 (1 + (sumTo Ln n : Nat))) ∧ OwnMat w' lo A0 n c0 A Ln Cp (fun i j => 1 + (sumTo Ln i : Nat) + j) ∧ Mid lo hi w w' := by
  have kk := Keeps.alloc w (.cells #[.int .i64 W, .slice A0 n c0] 25)
  have CM := Lib.hid (markMat_any lo hi n c0 A0 A Ln Cp X 1 _ hn hs (by omega) (by omega) (hO.keeps kk) hG)
  clear hO hG
  generalize hsv : sumTo Ln n = s at *
  clear hsv
  go_enter Try.func21, Try.ntmps21
  go_wp2_with fail
  refine CM.out.mono ?_
  rintro e w1 ⟨rfl, hO1, hM1⟩
  have HO1 := Lib.hid hO1
  have HM1 := Lib.hid hM1
  clear hO1 hM1
  go_wp2
  go_ret
  exact ⟨rfl, HO1.out, (Mid.ofKeeps kk).step HM1.out⟩
set_option maxHeartbeats 1000000 in
theorem heldView_any (lo n c0 : Nat) (W : Int) (A0 : Option Addr) (A : Nat → Option Addr) (Ln Cp : Nat → Nat) (w : World) (hn : n ≤ 1048576) (hs : sumTo Ln n ≤ 1048576) (hO : OwnMat w lo A0 n c0 A Ln Cp (fun i j => 1 + (sumTo Ln i : Nat) + j)) :
    Calls Try.prog 22 #[.agg #[.int .i64 W, .slice A0 n c0], .int .i64 1] w fun e w' => e = .returned (.int .i64 (1 + (sumTo Ln n : Nat))) ∧ Keeps w w' := by
  have kk := Keeps.alloc w (.cells #[.int .i64 W, .slice A0 n c0] 25)
  have CM := Lib.hid (heldMat_any lo n c0 A0 A Ln Cp 1 _ hn hs (by omega) (by omega) (hO.keeps kk))
  clear hO
  generalize hsv : sumTo Ln n = s at *
  clear hsv
  go_enter Try.func22, Try.ntmps22
  go_wp2_with fail
  refine CM.out.mono ?_
  rintro e w1 ⟨rfl, hk1⟩
  go_wp2
  go_ret
  exact ⟨rfl, kk.step hk1⟩
end Go.Proofs.Ytalafojkmomolaa
