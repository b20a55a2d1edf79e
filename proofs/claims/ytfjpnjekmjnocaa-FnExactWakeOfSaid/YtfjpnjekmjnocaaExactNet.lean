/-
  The contracts of the exact laws' words on nets: szNet, toNet, eqNet, markNet. Conditions: bounds on lengths and numbers.
-/
import Derived.Test.YtfjpnjekmjnocaaExactSS
import Derived.Test.YtfjpnjekmjnocaaSNet
namespace Go.Proofs.Ytfjpnjekmjnocaa
open Go.RowKit

set_option maxHeartbeats 1000000 in
theorem szNet_any (A B : Option Addr) (n c mm d : Nat) (r : Nat → Option Addr × Nat × Nat) (x : Nat → Nat → Int) (w : World) (hn : n ≤ 9223372036854775807) (hr : Rows w A n r x) (hl : ∀ i, i < n → (r i).2.1 ≤ 9223372036854775807) (hm : mm ≤ 9223372036854775807) :
    Calls Try.prog 11 #[.agg #[.slice A n c, .slice B mm d], .int .i64 1048576] w fun e w' => (∃ v : Int, e = .returned (.int .i64 v) ∧ (v = -1 ∨ (0 ≤ v ∧ v = 1048576 - n - (sumTo (fun i => (r i).2.1) n : Nat) - mm))) ∧ Keeps w w' := by
  have kk := Keeps.alloc w (.cells #[.slice A n c, .slice B mm d] 25)
  have hB := Blk.new w #[.slice A n c, .slice B mm d] 25
  have b1 : (w.alloc (.cells #[.slice A n c, .slice B mm d] 25)).cell? ⟨w.heap.size, 1, none⟩ = some (.slice B mm d) := hB.cell 1
  have CS := Lib.hid (szMat_any A n c r x 1048576 _ hn (by omega) (by omega) (hr.keeps kk) hl)
  clear hr hl hB
  go_enter Try.func11, Try.ntmps11
  go_wp2_with fail
  refine CS.out.mono ?_
  rintro e w1 ⟨⟨v, rfl, hv⟩, rfl⟩
  have HV := Lib.hid hv
  by_cases h : v < 0
  · clear hv
    go_wp2
    go_ret
    exact ⟨⟨-1, rfl, .inl rfl⟩, kk⟩
  · have h0 : 0 ≤ v := by omega
    have h1 : v ≤ 1048576 := by omega
    have HS := Lib.hid (fun w => szInts_any B mm d v w hm h0 h1)
    clear hv
    by_cases h2 : v - mm < 0
    · have HL : Hid (szLeft mm v = -1) := Lib.hid (by unfold szLeft; rw [if_pos h2])
      go_wp2_with fail
      refine (HS.out _).mono ?_
      rintro e w1 ⟨rfl, rfl⟩
      rw [HL.out]
      go_wp2
      go_ret
      exact ⟨⟨-1, rfl, .inl rfl⟩, kk⟩
    · have HL : Hid (szLeft mm v = v - mm) := Lib.hid (by unfold szLeft; rw [if_neg h2])
      have h3 : 0 ≤ v - mm := by omega
      go_wp2_with fail
      refine (HS.out _).mono ?_
      rintro e w1 ⟨rfl, rfl⟩
      rw [HL.out]
      go_wp2
      go_ret
      exact ⟨⟨v - mm, rfl, .inr (by have := HV.out; omega)⟩, kk⟩
/-- A copy of a net: its own rows in different blocks, and its own marks. -/
def CopyNet (n mm : Nat) (Ln : Nat → Nat) (x : Nat → Nat → Int) (y : Nat → Int) (w : World) (e : Ending) (w' : World) : Prop :=
  ∃ (g : Nat) (G : Nat → Nat) (h : Nat), e = .returned (.agg #[.slice (some ⟨g, 0, none⟩) n n, .slice (some ⟨h, 0, none⟩) mm mm]) ∧ OwnMat w' w.heap.size (some ⟨g, 0, none⟩) n n (fun i => some ⟨G i, 0, none⟩) Ln Ln x ∧ OwnInts w' w.heap.size (some ⟨h, 0, none⟩) mm mm (il mm y) ∧ (∀ i, i < n → G i < h) ∧ Keeps w w'
theorem copy_netAt {w : World} {lo n mm h g : Nat} {G Ln : Nat → Nat} {x : Nat → Nat → Int} {y : Nat → Int} (hO : OwnMat w lo (some ⟨g, 0, none⟩) n n (fun i => some ⟨G i, 0, none⟩) Ln Ln x) (hI : OwnInts w lo (some ⟨h, 0, none⟩) mm mm (il mm y)) (hn : n ≤ 1099511627776) (hm : mm ≤ 1099511627776) (hl : ∀ i, i < n → Ln i ≤ 1099511627776) :
    NetAt w (some ⟨g, 0, none⟩) n (fun i => (some ⟨G i, 0, none⟩, Ln i, Ln i)) (some ⟨h, 0, none⟩) mm Ln x y :=
  ⟨hO.rows, fun _ _ => rfl, fun v hv => ⟨Nat.le_refl _, by have := hl v hv; dsimp only; omega⟩, il_ints hI, by omega, by omega⟩
set_option maxRecDepth 100000 in
set_option maxHeartbeats 4000000 in
theorem toNet_any (A B : Option Addr) (n c mm d : Nat) (r : Nat → Option Addr × Nat × Nat) (x : Nat → Nat → Int) (y : Nat → Int) (w : World) (hn : n ≤ 1099511627776) (hr : Rows w A n r x) (hl : ∀ i, i < n → (r i).2.1 ≤ 1099511627776) (hm : mm ≤ 1099511627776) (hy : Ints w B mm y) :
    Calls Try.prog 13 #[.agg #[.slice A n c, .slice B mm d]] w (CopyNet n mm (fun i => (r i).2.1) x y w) := by
  have HR := Lib.hid hr
  have HL := Lib.hid hl
  have HY := Lib.hid hy
  clear hr hl hy
  have kA := Keeps.alloc w (.cells #[.slice A n c, .slice B mm d] 25)
  have kB := kA.step (Keeps.alloc _ (.cells #[.slice none 0 0, .slice none 0 0] 28))
  have kC := kB.step (Keeps.alloc _ (.cells #[.slice none 0 0, .slice none 0 0] 28))
  go_enter Try.func13, Try.ntmps13
  go_wp2_with fail
  refine (toMat_any A n c r x _ hn (HR.out.keeps kC) HL.out).mono ?_
  rintro e w1 ⟨g, G, rfl, hM, hk1⟩
  have hB0 : Blk w1 w.heap.size 25 #[.slice A n c, .slice B mm d] := (((Blk.new w _ _).keeps (Keeps.alloc _ _)).keeps (Keeps.alloc _ _)).keeps hk1
  have hB1 : Blk w1 (w.heap.size + 1) 28 #[.slice none 0 0, .slice none 0 0] := (Blk.keeps (blk_at (by simp) (Blk.new (w.alloc (.cells #[.slice A n c, .slice B mm d] 25)) _ _)) (Keeps.alloc _ _)).keeps hk1
  have hB2 : Blk w1 (w.heap.size + 1 + 1) 28 #[.slice none 0 0, .slice none 0 0] := Blk.keeps (blk_at (by simp) (Blk.new ((w.alloc (.cells #[.slice A n c, .slice B mm d] 25)).alloc (.cells #[.slice none 0 0, .slice none 0 0] 28)) _ _)) hk1
  have a01 : w1.cell? ⟨w.heap.size, 1, none⟩ = some (.slice B mm d) := hB0.cell 1
  have b20 : w1.cell? ⟨w.heap.size + 1 + 1, 0, none⟩ = some (.slice none 0 0) := hB2.cell 0
  have b21 : w1.cell? ⟨w.heap.size + 1 + 1, 1, none⟩ = some (.slice none 0 0) := hB2.cell 1
  have f20 := hB2.frozen 0
  have hS := hB2.set 0 (.slice (some ⟨g, 0, none⟩) n n)
  have HM := Lib.hid (mat_set (hM.mono (lo' := w.heap.size) kC.size) hB2 (by decide) (by decide) 0 (.slice (some ⟨g, 0, none⟩) n n))
  have HB1 := Lib.hid (hB1.set_other ⟨w.heap.size + 1 + 1, 0, none⟩ (.slice (some ⟨g, 0, none⟩) n n) (by simp))
  have HB2 := Lib.hid hS
  have hz1 : w.heap.size + 1 + 1 < w1.heap.size := hB2.lt
  have HK : Hid (Keeps w (w1.setCell ⟨w.heap.size + 1 + 1, 0, none⟩ (.slice (some ⟨g, 0, none⟩) n n))) := Lib.hid ((kC.step hk1).setCell (p := ⟨w.heap.size + 1 + 1, 0, none⟩) (by simp; omega) _)
  have HGL : Hid (∀ i, i < n → G i < w1.heap.size) := Lib.hid (fun i hi => (hM.rblo i hi (G i) rfl).2)
  have hz2 : (w1.setCell ⟨w.heap.size + 1 + 1, 0, none⟩ (.slice (some ⟨g, 0, none⟩) n n)).heap.size = w1.heap.size := by simp [World.setCell]
  have HZ2 := Lib.hid hz2
  clear hM hB0 hB1 hB2 hS hk1 hz2
  go_wp2_with fail
  have CI := Lib.hid (toInts_any B mm d y _ hm (HY.out.keeps HK.out))
  refine CI.out.mono ?_
  rintro e w2 ⟨h, rfl, hI, hk2⟩
  have HI := Lib.hid (hI.mono (lo' := w.heap.size) HK.out.size)
  have HH : Hid (∀ i, i < n → G i < h) := Lib.hid (fun i hi => by have := HGL.out i hi; have := hI.block.1; have := HZ2.out; omega)
  have HM2 := Lib.hid (HM.out.keeps hk2)
  have HB12 := Lib.hid (HB1.out.keeps hk2)
  have HB22 := Lib.hid (HB2.out.keeps hk2)
  have HK2 := Lib.hid (HK.out.step hk2)
  have c20 : w2.cell? ⟨w.heap.size + 1 + 1, 0, none⟩ = some (.slice (some ⟨g, 0, none⟩) n n) := HB22.out.cell 0
  have c21 : w2.cell? ⟨w.heap.size + 1 + 1, 1, none⟩ = some (.slice none 0 0) := HB22.out.cell 1
  have g21 := HB22.out.frozen 1
  have c10 : w2.cell? ⟨w.heap.size + 1, 0, none⟩ = some (.slice none 0 0) := HB12.out.cell 0
  have c11 : w2.cell? ⟨w.heap.size + 1, 1, none⟩ = some (.slice none 0 0) := HB12.out.cell 1
  have g10 := HB12.out.frozen 0
  have g11 := HB12.out.frozen 1
  clear hI hk2 HM HB1 HB2 HK a01 b20 b21 f20
  go_wp2
  have z1 := HB22.out.set 1 (.slice (some ⟨h, 0, none⟩) mm mm)
  have y1 := HB12.out.set_other ⟨w.heap.size + 1 + 1, 1, none⟩ (.slice (some ⟨h, 0, none⟩) mm mm) (by simp)
  have y2 := y1.set 0 (.slice (some ⟨g, 0, none⟩) n n)
  refine bodyPost_ret (v := .agg #[.slice (some ⟨g, 0, none⟩) n n, .slice (some ⟨h, 0, none⟩) mm mm]) (by simp [results, Try.results13, go_sem, c10, c11]) rfl ⟨g, G, h, rfl, ?_, ?_, HH.out, ?_⟩
  · exact ((mat_set HM2.out HB22.out (by decide) (by decide) 1 _ |> fun m1 => mat_set m1 y1 (by decide) (by decide) 0 _) |> fun m2 => mat_set m2 y2 (by decide) (by decide) 1 _)
  · exact ((HI.out.grown (grown_set _ _ _ _) HB22.out (by decide)).grown (grown_set _ _ _ _) y1 (by decide)).grown (grown_set _ _ _ _) y2 (by decide)
  · exact ((HK2.out.setCell (by simp; omega) _).setCell (by simp) _).setCell (by simp) _
set_option maxHeartbeats 2000000 in
theorem xNet_true (A A' B B' : Option Addr) (n c c' mm d d' : Nat) (r r' : Nat → Option Addr × Nat × Nat) (x x' : Nat → Nat → Int) (y y' : Nat → Int) (w : World) (hn : n ≤ 1099511627776) (hx : Rows w A n r x) (hx' : Rows w A' n r' x') (hl : ∀ i, i < n → (r i).2.1 ≤ 1099511627776) (he : ∀ i, i < n → (r i).2.1 = (r' i).2.1 ∧ ∀ j, j < (r i).2.1 → x i j = x' i j)
    (hm : mm ≤ 1099511627776) (hy : Ints w B mm y) (hy' : Ints w B' mm y') (hey : ∀ i, i < mm → y i = y' i) :
    Calls Try.prog 15 #[.agg #[.slice A n c, .slice B mm d], .agg #[.slice A' n c', .slice B' mm d']] w fun e w' => e = .returned (.bool true) ∧ Keeps w w' := by
  have kA := (Keeps.alloc w (.cells #[.slice A n c, .slice B mm d] 28)).step (Keeps.alloc _ (.cells #[.slice A' n c', .slice B' mm d'] 28))
  have CX := Lib.hid (xRows_true A A' n c c' r r' x x' _ hn (hx.keeps kA) (hx'.keeps kA) hl he)
  have HY := Lib.hid (hy.keeps kA)
  have HY' := Lib.hid (hy'.keeps kA)
  have HEY := Lib.hid hey
  have hB := (Blk.new w #[.slice A n c, .slice B mm d] 28).keeps (Keeps.alloc _ (.cells #[.slice A' n c', .slice B' mm d'] 28))
  have hB' := blk_at (b' := w.heap.size + 1) (by simp) (Blk.new (w.alloc (.cells #[.slice A n c, .slice B mm d] 28)) #[.slice A' n c', .slice B' mm d'] 28)
  have HB1 := Lib.hid (show ((w.alloc (.cells #[.slice A n c, .slice B mm d] 28)).alloc (.cells #[.slice A' n c', .slice B' mm d'] 28)).cell? ⟨w.heap.size, 1, none⟩ = some (.slice B mm d) from hB.cell 1)
  have HB1' := Lib.hid (show ((w.alloc (.cells #[.slice A n c, .slice B mm d] 28)).alloc (.cells #[.slice A' n c', .slice B' mm d'] 28)).cell? ⟨w.heap.size + 1, 1, none⟩ = some (.slice B' mm d') from hB'.cell 1)
  clear hx hx' hl he hy hy' hey hB hB'
  go_enter Try.func15, Try.ntmps15
  go_wp2_with fail
  refine CX.out.mono ?_
  rintro e w1 ⟨rfl, hk1⟩
  have q1 := cell_keeps hk1 HB1.out
  have q2 := cell_keeps hk1 HB1'.out
  have CY := Lib.hid (xInts_true B B' mm d d' y y' w1 hm (HY.out.keeps hk1) (HY'.out.keeps hk1) HEY.out)
  go_wp2_with fail
  refine CY.out.mono ?_
  rintro e w2 ⟨rfl, hk2⟩
  go_wp2
  go_ret
  exact ⟨rfl, (kA.step hk1).step hk2⟩
set_option maxRecDepth 100000 in
set_option maxHeartbeats 2000000 in
theorem markNet_any (lo hi n mm g h : Nat) (G Ln : Nat → Nat) (x : Nat → Nat → Int) (y : Nat → Int) (w : World) (hn : n ≤ 1048576) (hs : sumTo Ln n ≤ 1048576) (hm : mm ≤ 1048576) (hO : OwnMat w lo (some ⟨g, 0, none⟩) n n (fun i => some ⟨G i, 0, none⟩) Ln Ln x) (hI : OwnInts w lo (some ⟨h, 0, none⟩) mm mm (il mm y)) (hG : ∀ i, i < n → G i < h) (hh : h < hi) :
    Calls Try.prog 21 #[.agg #[.slice (some ⟨g, 0, none⟩) n n, .slice (some ⟨h, 0, none⟩) mm mm], .int .i64 1] w fun e w' => e = .returned (.int .i64 (1 + (sumTo Ln n : Nat) + (mm : Nat))) ∧ Mid lo hi w w' := by
  have kk := Keeps.alloc w (.cells #[.slice (some ⟨g, 0, none⟩) n n, .slice (some ⟨h, 0, none⟩) mm mm] 28)
  have hB := Blk.new w #[.slice (some ⟨g, 0, none⟩) n n, .slice (some ⟨h, 0, none⟩) mm mm] 28
  have b1 : (w.alloc (.cells #[.slice (some ⟨g, 0, none⟩) n n, .slice (some ⟨h, 0, none⟩) mm mm] 28)).cell? ⟨w.heap.size, 1, none⟩ = some (.slice (some ⟨h, 0, none⟩) mm mm) := hB.cell 1
  have HB1 := Lib.hid b1
  have hhb := hI.block
  have CM := Lib.hid (markMat_any lo h n n (some ⟨g, 0, none⟩) (fun i => some ⟨G i, 0, none⟩) Ln Ln x 1 _ hn hs (by omega) (by omega) (hO.keeps kk) (fun i hi d hd => by have := hG i hi; simp at hd; omega))
  have HI := Lib.hid (hI.keeps kk)
  clear hO hG hI hB b1
  generalize hsv : sumTo Ln n = s at *
  clear hsv
  have hs0 : (0 : Int) ≤ 1 + (s : Int) := by omega
  go_enter Try.func21, Try.ntmps21
  go_wp2_with fail
  refine CM.out.mono ?_
  rintro e w1 ⟨rfl, _, hM1⟩
  have q1 := hM1.cell HB1.out (.inr (by simp; omega))
  have CI := Lib.hid (markInts_any lo (some ⟨h, 0, none⟩) mm mm _ (1 + (s : Int)) w1 (by omega) (by omega) (by omega) (hM1.ints HI.out (fun k hk => .inr (by simp at hk; omega))))
  have HM1 := Lib.hid (((Mid.ofKeeps kk).step hM1).wide (Nat.le_refl lo) (Nat.le_of_lt hh))
  clear hM1
  go_wp2_with fail
  refine CI.out.mono ?_
  rintro e w2 ⟨rfl, _, hg2⟩
  have HM2 := Lib.hid (HM1.out.step (Mid.ofGrown hg2 (fun d hd => by simp at hd; omega)))
  clear hg2
  go_wp2
  go_ret
  exact ⟨rfl, HM2.out⟩
end Go.Proofs.Ytfjpnjekmjnocaa
