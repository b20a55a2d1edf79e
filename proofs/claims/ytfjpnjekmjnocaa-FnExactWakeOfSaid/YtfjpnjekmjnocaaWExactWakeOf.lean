/-
  The walk of FnExactWakeOf: whatever the net is, it returns true, and nothing that was there turns. Condition: bounds on lengths.
-/
import Derived.Test.YtfjpnjekmjnocaaExactNet
import Derived.Test.YtfjpnjekmjnocaaSWakeO
namespace Go.Proofs.Ytfjpnjekmjnocaa
open Go.RowKit

set_option maxRecDepth 100000 in
set_option maxHeartbeats 8000000 in
theorem FnExactWakeOf_walk (A B : Option Addr) (n c mm d : Nat) (s : Int) (r : Nat → Option Addr × Nat × Nat) (x : Nat → Nat → Int) (y : Nat → Int) (w : World) (hR : Rows w A n r x) (hn : n ≤ 9223372036854775807) (hl : ∀ i, i < n → (r i).2.1 ≤ 9223372036854775807) (hY : Ints w B mm y) (hm : mm ≤ 9223372036854775807) :
    Calls Try.prog 7 #[.agg #[.slice A n c, .slice B mm d], .int .i64 s] w fun e w' => e = .returned (.bool true) ∧ Keeps w w' := by
  have HR := Lib.hid hR
  have HL := Lib.hid hl
  have HY := Lib.hid hY
  clear hR hl hY
  go_enter Try.func7, Try.ntmps7
  go_wp2_with fail
  refine (szNet_any A B n c mm d r x _ hn (HR.out.keeps (Keeps.alloc w (.cells #[.slice A n c, .slice B mm d] 25))) HL.out hm).mono ?_
  rintro e w1 ⟨⟨v, rfl, hv⟩, hk1⟩
  have hBa := (Blk.new w #[.slice A n c, .slice B mm d] 25).keeps hk1
  have hK1 := (Keeps.alloc w (.cells #[.slice A n c, .slice B mm d] 25)).step hk1
  clear hk1
  have a10 : w1.cell? ⟨w.heap.size, 0, none⟩ = some (.slice A n c) := hBa.cell 0
  have a11 : w1.cell? ⟨w.heap.size, 1, none⟩ = some (.slice B mm d) := hBa.cell 1
  have zBa := hBa.lt
  clear hBa
  by_cases hsz : v < 0
  · clear hv
    go_wp2
    go_ret
    exact ⟨rfl, hK1⟩
  · have hn2 : n ≤ 1048576 := by omega
    have hm2 : mm ≤ 1048576 := by omega
    have hs2 : sumTo (fun i => (r i).2.1) n ≤ 1048576 := by omega
    have HL2 : Hid (∀ i, i < n → (r i).2.1 ≤ 1048576) := Lib.hid (fun i hi => Nat.le_trans (sumTo_one (fun i => (r i).2.1) n i hi) hs2)
    have HTV : Hid (∀ w', Keeps w1 w' → Calls Try.prog 13 #[.agg #[.slice A n c, .slice B mm d]] w' (CopyNet n mm (fun i => (r i).2.1) x y w')) :=
      Lib.hid (fun w' hk => toNet_any A B n c mm d r x y w' (by omega) (HR.out.keeps (hK1.step hk)) (fun i hi => by have := HL2.out i hi; omega) (by omega) (HY.out.keeps (hK1.step hk)))
    have HNA : Hid (∀ (w' : World) (lo h g : Nat) (G : Nat → Nat), OwnMat w' lo (some ⟨g, 0, none⟩) n n (fun i => some ⟨G i, 0, none⟩) (fun i => (r i).2.1) (fun i => (r i).2.1) x → OwnInts w' lo (some ⟨h, 0, none⟩) mm mm (il mm y) → NetAt w' (some ⟨g, 0, none⟩) n (fun i => (some ⟨G i, 0, none⟩, (r i).2.1, (r i).2.1)) (some ⟨h, 0, none⟩) mm (fun i => (r i).2.1) x y) :=
      Lib.hid (fun w' lo h g G hO hI => copy_netAt hO hI (by omega) (by omega) (fun i hi => by have := HL2.out i hi; omega))
    obtain ⟨V, hV⟩ : ∃ V, V = wakeI n (fun i => (r i).2.1) x mm y s := ⟨_, rfl⟩
    have HSP : Hid (∀ (w' : World) (lo h g : Nat) (G : Nat → Nat), OwnMat w' lo (some ⟨g, 0, none⟩) n n (fun i => some ⟨G i, 0, none⟩) (fun i => (r i).2.1) (fun i => (r i).2.1) x → OwnInts w' lo (some ⟨h, 0, none⟩) mm mm (il mm y) → Calls Try.prog 26 #[.agg #[.slice (some ⟨g, 0, none⟩) n n, .slice (some ⟨h, 0, none⟩) mm mm], .int .i64 s] w' fun e w'' => e = .returned (.int .i64 V) ∧ Keeps w' w'') :=
      Lib.hid (fun w' lo h g G hO hI => by rw [hV]; exact sWakeOf_any _ _ n n mm mm _ _ x y s w' (HNA.out w' lo h g G hO hI))
    have HIM : Hid (∀ (w' : World) (lo h g : Nat) (G : Nat → Nat), OwnMat w' lo (some ⟨g, 0, none⟩) n n (fun i => some ⟨G i, 0, none⟩) (fun i => (r i).2.1) (fun i => (r i).2.1) x → OwnInts w' lo (some ⟨h, 0, none⟩) mm mm (il mm y) → Calls Try.prog 27 #[.agg #[.slice (some ⟨g, 0, none⟩) n n, .slice (some ⟨h, 0, none⟩) mm mm], .int .i64 s] w' fun e w'' => e = .returned (.int .i64 V) ∧ Keeps w' w'') :=
      Lib.hid (fun w' lo h g G hO hI => by rw [hV]; exact iWakeOf_any _ _ n n mm mm _ _ x y s w' (HNA.out w' lo h g G hO hI))
    have hVV : (V != V) = false := by simp
    clear hv hs2 hV HL HR HY
    -- the reference's answer, of a copy
    go_wp2_with fail
    refine (HTV.out _ (Keeps.refl _)).mono ?_
    rintro e w2 ⟨g1, G1, h1, rfl, hO1, hI1, hGh1, hk2⟩
    have HO1 := Lib.hid hO1
    have HI1 := Lib.hid hI1
    clear hO1 hI1 hGh1
    go_wp2_with fail
    refine (HSP.out _ _ h1 g1 G1 HO1.out HI1.out).mono ?_
    rintro e w3 ⟨rfl, hk3⟩
    have k13 := hk2.step hk3
    have a30 := cell_keeps k13 a10
    have a31 := cell_keeps k13 a11
    clear hk2 hk3 HO1 HI1 a10 a11
    go_wp2_with fail
    -- the argument, a copy
    refine (HTV.out _ k13).mono ?_
    rintro e w5 ⟨g2, G2, h2, rfl, hO2, hI2, hGh2, hk5⟩
    have kB := Keeps.alloc w5 (.cells #[.slice (some ⟨g2, 0, none⟩) n n, .slice (some ⟨h2, 0, none⟩) mm mm] 28)
    have hB7 := Blk.new w5 #[.slice (some ⟨g2, 0, none⟩) n n, .slice (some ⟨h2, 0, none⟩) mm mm] 28
    have k36 := hk5.step kB
    have HO6 := Lib.hid (hO2.keeps kB)
    have HI6 := Lib.hid (hI2.keeps kB)
    have a60 := cell_keeps k36 a30
    have a61 := cell_keeps k36 a31
    have k16 := k13.step k36
    have z5 := k36.size
    clear hO2 hI2 hGh2 hk5 a30 a31 k13 k36
    go_wp2_with fail
    generalize hb7 : w5.heap.size = b7 at *
    generalize hw6 : w5.alloc (.cells #[.slice (some ⟨g2, 0, none⟩) n n, .slice (some ⟨h2, 0, none⟩) mm mm] 28) = w6 at *
    have c60 : w6.cell? ⟨b7, 0, none⟩ = some (.slice (some ⟨g2, 0, none⟩) n n) := hB7.cell 0
    have c61 : w6.cell? ⟨b7, 1, none⟩ = some (.slice (some ⟨h2, 0, none⟩) mm mm) := hB7.cell 1
    have z7 := hB7.lt
    clear hw6 hb7 hB7 kB
    go_wp2_with fail
    -- the program's answer
    refine (HIM.out _ _ h2 g2 G2 HO6.out HI6.out).mono ?_
    rintro e w7 ⟨rfl, hk7⟩
    have a90 := cell_keeps hk7 a60
    have a91 := cell_keeps hk7 a61
    have c90 := cell_keeps hk7 c60
    have c91 := cell_keeps hk7 c61
    have HO9 := Lib.hid (HO6.out.keeps hk7)
    have HI9 := Lib.hid (HI6.out.keeps hk7)
    have k17 := k16.step hk7
    have KT := Lib.hid k17
    clear a60 a61 c60 c61 HO6 HI6 k16 hk7
    have HLN : Hid (∀ i, i < n → (r i).2.1 ≤ 1099511627776) := Lib.hid (fun i hi => by have := HL2.out i hi; omega)
    go_wp2_with fail
    -- the argument is as it was
    go_region_held3 (fun w' => w'.cell? ⟨w.heap.size, 0, none⟩ = some (.slice A n c) ∧ w'.cell? ⟨w.heap.size, 1, none⟩ = some (.slice B mm d) ∧ w'.cell? ⟨b7, 0, none⟩ = some (.slice (some ⟨g2, 0, none⟩) n n) ∧ w'.cell? ⟨b7, 1, none⟩ = some (.slice (some ⟨h2, 0, none⟩) mm mm) ∧ Keeps w7 w') (first | exact ⟨cell_keeps hk10 q0, cell_keeps hk10 q1, cell_keeps hk10 q2, cell_keeps hk10 q3, q4.step hk10⟩ | exact ⟨cell_keeps hk11 q0, cell_keeps hk11 q1, cell_keeps hk11 q2, cell_keeps hk11 q3, q4.step hk11⟩ | exact ⟨a90, a91, c90, c91, Keeps.drew1 _⟩) (first | (go_at_call 13; obtain ⟨q0, q1, q2, q3, q4⟩ : _ ∧ _ ∧ _ ∧ _ ∧ Keeps w7 _ := (by assumption); refine (HTV.out _ (KT.out.step q4)).mono ?_; rintro e w10 ⟨g3, G3, h3, rfl, hO3, hI3, hGh3, hk10⟩; have HO3 := Lib.hid hO3.rows; have HI3 := Lib.hid (il_ints hI3); clear hO3 hI3 hGh3) | (go_at_call 15; obtain ⟨q0, q1, q2, q3, q4⟩ : _ ∧ _ ∧ _ ∧ _ ∧ Keeps w7 _ := (by assumption); refine (xNet_true _ _ _ _ n n n mm mm mm _ _ x x y y _ (by omega) (HO9.out.keeps q4).rows HO3.out HLN.out (fun _ _ => ⟨rfl, fun _ _ => rfl⟩) (by omega) (il_ints (HI9.out.keeps q4)) HI3.out (fun _ _ => rfl)).mono ?_; rintro e w11 ⟨rfl, hk11⟩))
    have kF := hK1.step (k17.step (q4.step hk11))
    go_wp2
    go_ret
    exact ⟨rfl, kF⟩
end Go.Proofs.Ytfjpnjekmjnocaa
