/-
  The contracts of the exact laws' words on rules: szRules, toRules, eqRules, markRules. Conditions: bounds on lengths and numbers.
-/
import Derived.Test.YtknmbhlkppikpaaExactSS
import Derived.Test.YtknmbhlkppikpaaRul
namespace Go.Proofs.Ytknmbhlkppikpaa
set_option linter.unusedVariables false
open Go.RowKit

set_option maxHeartbeats 2000000 in
theorem szRules_any (S A B : Option Addr) (nS cS nA cA nB cB : Nat) (s : Nat → Int) (rA rB : Nat → Option Addr × Nat × Nat) (f g : Nat → Nat → Int) (w : World) (hA : nA ≤ 9223372036854775807) (hB : nB ≤ 9223372036854775807) (hS : nS ≤ 9223372036854775807) (hrA : Rows w A nA rA f) (hrB : Rows w B nB rB g) (hlA : ∀ i, i < nA → (rA i).2.1 ≤ 9223372036854775807) (hlB : ∀ i, i < nB → (rB i).2.1 ≤ 9223372036854775807) :
    Calls Try.prog 7 #[.agg #[.slice S nS cS, .slice A nA cA, .slice B nB cB], .int .i64 1048576] w fun e w' => (∃ v : Int, e = .returned (.int .i64 v) ∧ (v = -1 ∨ (0 ≤ v ∧ v = 1048576 - nS - nA - (sumTo (fun i => (rA i).2.1) nA : Nat) - nB - (sumTo (fun i => (rB i).2.1) nB : Nat)))) ∧ Keeps w w' := by
  have kk := Keeps.alloc w (.cells #[.slice S nS cS, .slice A nA cA, .slice B nB cB] 25)
  have hBk := Blk.new w #[.slice S nS cS, .slice A nA cA, .slice B nB cB] 25
  have b0 : (w.alloc (.cells #[.slice S nS cS, .slice A nA cA, .slice B nB cB] 25)).cell? ⟨w.heap.size, 0, none⟩ = some (.slice S nS cS) := hBk.cell 0
  have b1 : (w.alloc (.cells #[.slice S nS cS, .slice A nA cA, .slice B nB cB] 25)).cell? ⟨w.heap.size, 1, none⟩ = some (.slice A nA cA) := hBk.cell 1
  have b2 : (w.alloc (.cells #[.slice S nS cS, .slice A nA cA, .slice B nB cB] 25)).cell? ⟨w.heap.size, 2, none⟩ = some (.slice B nB cB) := hBk.cell 2
  have CS := Lib.hid (szInts_any S nS cS 1048576 (w.alloc (.cells #[.slice S nS cS, .slice A nA cA, .slice B nB cB] 25)) hS (by omega) (by omega))
  have HRA := Lib.hid (hrA.keeps kk)
  have HRB := Lib.hid (hrB.keeps kk)
  have HLA := Lib.hid hlA
  have HLB := Lib.hid hlB
  clear hrA hrB hlA hlB hBk
  go_enter Try.func7, Try.ntmps7
  go_wp2_with fail
  generalize w.alloc (.cells #[.slice S nS cS, .slice A nA cA, .slice B nB cB] 25) = w1 at *
  by_cases h1 : (1048576 : Int) - nS < 0
  · have HL : Hid (szLeft nS 1048576 = -1) := Lib.hid (by unfold szLeft; rw [if_pos h1])
    refine CS.out.mono ?_
    rintro e w1 ⟨rfl, rfl⟩
    rw [HL.out]
    go_wp2
    go_ret
    exact ⟨⟨-1, rfl, .inl rfl⟩, kk⟩
  · have HL : Hid (szLeft nS 1048576 = 1048576 - nS) := Lib.hid (by unfold szLeft; rw [if_neg h1])
    obtain ⟨x, hx⟩ : ∃ x : Int, x = 1048576 - nS := ⟨_, rfl⟩
    rw [← hx] at HL
    have HX := Lib.hid hx
    have hx0 : 0 ≤ x := by omega
    have hx1 : x ≤ 1048576 := by omega
    have CA := Lib.hid (szMat_any A nA cA rA f x w1 hA hx0 hx1 HRA.out HLA.out)
    clear hx h1
    refine CS.out.mono ?_
    rintro e w1 ⟨rfl, rfl⟩
    rw [HL.out]
    go_wp2_with fail
    refine CA.out.mono ?_
    rintro e w1 ⟨⟨v, rfl, hv⟩, rfl⟩
    have HV := Lib.hid hv
    by_cases h2 : v < 0
    · clear hv
      go_wp2
      go_ret
      exact ⟨⟨-1, rfl, .inl rfl⟩, kk⟩
    · have h3 : 0 ≤ v := by omega
      have h4 : v ≤ 1048576 := by omega
      have CB := Lib.hid (szMat_any B nB cB rB g v w1 hB h3 h4 HRB.out HLB.out)
      clear hv
      go_wp2_with fail
      refine CB.out.mono ?_
      rintro e w1 ⟨⟨u, rfl, hu⟩, rfl⟩
      have HU := Lib.hid hu
      by_cases h5 : u < 0
      · clear hu
        go_wp2
        go_ret
        exact ⟨⟨-1, rfl, .inl rfl⟩, kk⟩
      · have h6 : 0 ≤ u := by omega
        clear hu
        go_wp2
        go_ret
        exact ⟨⟨u, rfl, .inr (by have := HV.out; have := HU.out; have := HX.out; omega)⟩, kk⟩
theorem il_intsR {w : World} {lo n c : Nat} {A : Option Addr} {x : Nat → Int} (h : OwnInts w lo A n c (il n x)) : Ints w A n x := fun i hi => by
  obtain ⟨b, off, e, hc⟩ := h.ints i hi
  exact ⟨b, off, e, by dsimp only at hc; rw [il_getD _ _ _ hi] at hc; exact hc⟩
/-- A copy of rules: own memory, the parts in three stretches of blocks. -/
structure CopyRul (nS nA nB : Nat) (s : Nat → Int) (LA LB : Nat → Nat) (f g : Nat → Nat → Int) (lo h p1 a : Nat) (G : Nat → Nat) (p2 b : Nat) (G2 : Nat → Nat) (w : World) : Prop where
  says : OwnInts w lo (some ⟨h, 0, none⟩) nS nS (il nS s)
  first : OwnMat w p1 (some ⟨a, 0, none⟩) nA nA (fun i => some ⟨G i, 0, none⟩) LA LA f
  second : OwnMat w p2 (some ⟨b, 0, none⟩) nB nB (fun i => some ⟨G2 i, 0, none⟩) LB LB g
  h1 : h < p1
  a1 : a < p2
  a2 : ∀ i, i < nA → G i < p2
  l1 : lo ≤ p1
  l2 : p1 ≤ p2
section
variable {nS nA nB : Nat} {s : Nat → Int} {LA LB : Nat → Nat} {f g : Nat → Nat → Int} {lo h p1 a : Nat} {G : Nat → Nat} {p2 b : Nat} {G2 : Nat → Nat} {w w' : World}
theorem CopyRul.keeps (c : CopyRul nS nA nB s LA LB f g lo h p1 a G p2 b G2 w) (k : Keeps w w') : CopyRul nS nA nB s LA LB f g lo h p1 a G p2 b G2 w' :=
  ⟨c.says.keeps k, c.first.keeps k, c.second.keeps k, c.h1, c.a1, c.a2, c.l1, c.l2⟩
theorem CopyRul.set (c : CopyRul nS nA nB s LA LB f g lo h p1 a G p2 b G2 w) {d : Nat} {T : TypeId} {cs : Array Value} (hb : Blk w d T cs) (hT : T ≠ 3) (hT2 : T ≠ 22) (o : Nat) (v : Value) : CopyRul nS nA nB s LA LB f g lo h p1 a G p2 b G2 (w.setCell ⟨d, o, none⟩ v) :=
  ⟨c.says.grown (grown_set _ _ _ _) hb hT, mat_set c.first hb hT hT2 o v, mat_set c.second hb hT hT2 o v, c.h1, c.a1, c.a2, c.l1, c.l2⟩
theorem CopyRul.rulAt (c : CopyRul nS nA nB s LA LB f g lo h p1 a G p2 b G2 w) (hS : nS ≤ 1099511627776) (hA : nA ≤ 1099511627776) (hB : nB ≤ 1099511627776) (hLA : ∀ i, i < nA → LA i ≤ 1099511627776) (hLB : ∀ i, i < nB → LB i ≤ 1099511627776) :
    RulAt w (some ⟨h, 0, none⟩) nS s (some ⟨a, 0, none⟩) nA (fun i => (some ⟨G i, 0, none⟩, LA i, LA i)) f (some ⟨b, 0, none⟩) nB (fun i => (some ⟨G2 i, 0, none⟩, LB i, LB i)) g :=
  ⟨il_intsR c.says, c.first.rows, c.second.rows, hS, hA, hB, hLA, hLB⟩
/-- The three boxes of toRules. -/
structure TBox (w : World) (b0 b1 b2 : Nat) (x : Array Value) (y0 y1 y2 : Value) (wr : World) : Prop where
  arg : Blk wr b0 25 x
  res : Blk wr b1 28 #[.slice none 0 0, .slice none 0 0, .slice none 0 0]
  out : Blk wr b2 28 #[y0, y1, y2]
  keeps : Keeps w wr
variable {wr : World} {b0 b1 b2 : Nat} {x : Array Value} {y0 y1 y2 : Value}
theorem TBox.step (t : TBox w b0 b1 b2 x y0 y1 y2 wr) (k : Keeps wr w') : TBox w b0 b1 b2 x y0 y1 y2 w' := ⟨t.arg.keeps k, t.res.keeps k, t.out.keeps k, t.keeps.step k⟩
theorem TBox.set0 (t : TBox w b0 b1 b2 x y0 y1 y2 wr) (h0 : b0 ≠ b2) (h1 : b1 ≠ b2) (h2 : w.heap.size ≤ b2) (v : Value) : TBox w b0 b1 b2 x v y1 y2 (wr.setCell ⟨b2, 0, none⟩ v) :=
  ⟨t.arg.set_other _ _ h0, t.res.set_other _ _ h1, t.out.set 0 v, t.keeps.setCell (p := ⟨b2, 0, none⟩) h2 _⟩
theorem TBox.set1 (t : TBox w b0 b1 b2 x y0 y1 y2 wr) (h0 : b0 ≠ b2) (h1 : b1 ≠ b2) (h2 : w.heap.size ≤ b2) (v : Value) : TBox w b0 b1 b2 x y0 v y2 (wr.setCell ⟨b2, 1, none⟩ v) :=
  ⟨t.arg.set_other _ _ h0, t.res.set_other _ _ h1, t.out.set 1 v, t.keeps.setCell (p := ⟨b2, 1, none⟩) h2 _⟩
theorem TBox.set2 (t : TBox w b0 b1 b2 x y0 y1 y2 wr) (h0 : b0 ≠ b2) (h1 : b1 ≠ b2) (h2 : w.heap.size ≤ b2) (v : Value) : TBox w b0 b1 b2 x y0 y1 v (wr.setCell ⟨b2, 2, none⟩ v) :=
  ⟨t.arg.set_other _ _ h0, t.res.set_other _ _ h1, t.out.set 2 v, t.keeps.setCell (p := ⟨b2, 2, none⟩) h2 _⟩
end
set_option maxRecDepth 100000 in
set_option maxHeartbeats 4000000 in
theorem toRules_any (S A B : Option Addr) (nS cS nA cA nB cB : Nat) (s : Nat → Int) (rA rB : Nat → Option Addr × Nat × Nat) (f g : Nat → Nat → Int) (w : World) (hR : RulAt w S nS s A nA rA f B nB rB g) :
    Calls Try.prog 9 #[.agg #[.slice S nS cS, .slice A nA cA, .slice B nB cB]] w fun e w' => ∃ h p1 a G p2 b G2, e = .returned (.agg #[.slice (some ⟨h, 0, none⟩) nS nS, .slice (some ⟨a, 0, none⟩) nA nA, .slice (some ⟨b, 0, none⟩) nB nB]) ∧ CopyRul nS nA nB s (fun i => (rA i).2.1) (fun i => (rB i).2.1) f g w.heap.size h p1 a G p2 b G2 w' ∧ Keeps w w' := by
  have HR := Lib.hid hR
  clear hR
  have kA := Keeps.alloc w (.cells #[.slice S nS cS, .slice A nA cA, .slice B nB cB] 25)
  have kB := kA.step (Keeps.alloc _ (.cells #[.slice none 0 0, .slice none 0 0, .slice none 0 0] 28))
  have kC := kB.step (Keeps.alloc _ (.cells #[.slice none 0 0, .slice none 0 0, .slice none 0 0] 28))
  have HT : Hid (TBox w w.heap.size (w.heap.size + 1) (w.heap.size + 1 + 1) #[.slice S nS cS, .slice A nA cA, .slice B nB cB] (.slice none 0 0) (.slice none 0 0) (.slice none 0 0) (((w.alloc (.cells #[.slice S nS cS, .slice A nA cA, .slice B nB cB] 25)).alloc (.cells #[.slice none 0 0, .slice none 0 0, .slice none 0 0] 28)).alloc (.cells #[.slice none 0 0, .slice none 0 0, .slice none 0 0] 28))) := Lib.hid ⟨((Blk.new w _ _).keeps (Keeps.alloc _ _)).keeps (Keeps.alloc _ _), Blk.keeps (blk_at (by simp) (Blk.new (w.alloc (.cells #[.slice S nS cS, .slice A nA cA, .slice B nB cB] 25)) _ _)) (Keeps.alloc _ _), blk_at (by simp) (Blk.new ((w.alloc (.cells #[.slice S nS cS, .slice A nA cA, .slice B nB cB] 25)).alloc (.cells #[.slice none 0 0, .slice none 0 0, .slice none 0 0] 28)) _ _), kC⟩
  have HSZ : Hid (w.heap.size + 1 + 1 < (((w.alloc (.cells #[.slice S nS cS, .slice A nA cA, .slice B nB cB] 25)).alloc (.cells #[.slice none 0 0, .slice none 0 0, .slice none 0 0] 28)).alloc (.cells #[.slice none 0 0, .slice none 0 0, .slice none 0 0] 28)).heap.size) := Lib.hid (by simp)
  clear kA kB kC
  go_enter Try.func9, Try.ntmps9
  go_wp2_with fail
  generalize (((w.alloc (.cells #[.slice S nS cS, .slice A nA cA, .slice B nB cB] 25)).alloc (.cells #[.slice none 0 0, .slice none 0 0, .slice none 0 0] 28)).alloc (.cells #[.slice none 0 0, .slice none 0 0, .slice none 0 0] 28)) = w1 at *
  obtain ⟨q0, hq0⟩ : ∃ q, q = w.heap.size := ⟨_, rfl⟩
  obtain ⟨q1, hq1⟩ : ∃ q, q = w.heap.size + 1 := ⟨_, rfl⟩
  obtain ⟨q2, hq2⟩ : ∃ q, q = w.heap.size + 1 + 1 := ⟨_, rfl⟩
  rw [← hq2, ← hq1, ← hq0] at HT
  rw [← hq2] at HSZ
  try rw [← hq2]
  try rw [← hq1]
  have h02 : q0 ≠ q2 := by omega
  have h12 : q1 ≠ q2 := by omega
  have HQ := Lib.hid (And.intro hq0 (And.intro hq1 hq2))
  try rw [← hq0]
  clear hq0 hq1 hq2
  refine (toInts_any S nS cS s w1 (HR.out.bS) (HR.out.says.keeps HT.out.keeps)).mono ?_
  rintro e w2 ⟨h, rfl, hI, hk2⟩
  have HT2 := Lib.hid (HT.out.step hk2)
  have HI2 := Lib.hid (hI.mono (lo' := w.heap.size) HT.out.keeps.size)
  have HHL := Lib.hid hI.block.2
  have f20 := HT2.out.out.frozen 0
  have e20 : w2.cell? ⟨q2, 0, none⟩ = some (.slice none 0 0) := HT2.out.out.cell 0
  have a21 : w2.cell? ⟨q0, 1, none⟩ = some (.slice A nA cA) := HT2.out.arg.cell 1
  have hw2 : w.heap.size ≤ q2 := by have := HQ.out; omega
  have HT3 := Lib.hid (HT2.out.set0 h02 h12 hw2 (.slice (some ⟨h, 0, none⟩) nS nS))
  have HI3 := Lib.hid (HI2.out.grown (grown_set _ _ 0 (.slice (some ⟨h, 0, none⟩) nS nS)) HT2.out.out (by decide))
  have HHL3 : Hid (h < (w2.setCell ⟨q2, 0, none⟩ (.slice (some ⟨h, 0, none⟩) nS nS)).heap.size) := Lib.hid (by have := HHL.out; simpa [World.setCell] using this)
  have CA := Lib.hid (toMat_any A nA cA rA f _ HR.out.bA (HR.out.first.keeps HT3.out.keeps) HR.out.lA)
  clear hI hk2 HT2 HI2 HHL HT
  go_wp2_with fail
  generalize w2.setCell ⟨q2, 0, none⟩ (.slice (some ⟨h, 0, none⟩) nS nS) = w3 at *
  clear f20 e20 a21
  refine CA.out.mono ?_
  rintro e w4 ⟨a, G, rfl, hM, hk4⟩
  have HT4 := Lib.hid (HT3.out.step hk4)
  have HI4 := Lib.hid (HI3.out.keeps hk4)
  have HM4 := Lib.hid hM
  have HL3 : Hid (w.heap.size ≤ w3.heap.size ∧ h < w3.heap.size) := Lib.hid ⟨HT3.out.keeps.size, HHL3.out⟩
  have HAL : Hid (a < w4.heap.size ∧ ∀ i, i < nA → G i < w4.heap.size) := Lib.hid ⟨(hM.blo a rfl).2, fun i hi => (hM.rblo i hi (G i) rfl).2⟩
  have HZ4 := Lib.hid hk4.size
  have f41 := HT4.out.out.frozen 1
  have e41 : w4.cell? ⟨q2, 1, none⟩ = some (.slice none 0 0) := HT4.out.out.cell 1
  have a42 : w4.cell? ⟨q0, 2, none⟩ = some (.slice B nB cB) := HT4.out.arg.cell 2
  have HT5 := Lib.hid (HT4.out.set1 h02 h12 hw2 (.slice (some ⟨a, 0, none⟩) nA nA))
  have HI5 := Lib.hid (HI4.out.grown (grown_set _ _ 1 (.slice (some ⟨a, 0, none⟩) nA nA)) HT4.out.out (by decide))
  have HM5 := Lib.hid (mat_set HM4.out HT4.out.out (by decide) (by decide) 1 (.slice (some ⟨a, 0, none⟩) nA nA))
  have HAL5 : Hid (a < (w4.setCell ⟨q2, 1, none⟩ (.slice (some ⟨a, 0, none⟩) nA nA)).heap.size ∧ ∀ i, i < nA → G i < (w4.setCell ⟨q2, 1, none⟩ (.slice (some ⟨a, 0, none⟩) nA nA)).heap.size) := Lib.hid (by have := HAL.out; simpa [World.setCell] using this)
  have HZ5 : Hid (w3.heap.size ≤ (w4.setCell ⟨q2, 1, none⟩ (.slice (some ⟨a, 0, none⟩) nA nA)).heap.size) := Lib.hid (by have := HZ4.out; simpa [World.setCell] using this)
  have CB := Lib.hid (toMat_any B nB cB rB g _ HR.out.bB (HR.out.second.keeps HT5.out.keeps) HR.out.lB)
  clear hM hk4 HT3 HI3 HHL3 CA HT4 HI4 HM4 HAL HZ4
  go_wp2_with fail
  generalize w4.setCell ⟨q2, 1, none⟩ (.slice (some ⟨a, 0, none⟩) nA nA) = w5 at *
  clear f41 e41 a42
  refine CB.out.mono ?_
  rintro e w6 ⟨b, G2, rfl, hM2, hk6⟩
  have HT6 := Lib.hid (HT5.out.step hk6)
  have f62 := HT6.out.out.frozen 2
  have e62 : w6.cell? ⟨q2, 2, none⟩ = some (.slice none 0 0) := HT6.out.out.cell 2
  have hz2 : q2 < w6.heap.size := HT6.out.out.lt
  have c20 : w6.cell? ⟨q2, 0, none⟩ = some (.slice (some ⟨h, 0, none⟩) nS nS) := HT6.out.out.cell 0
  have c21 : w6.cell? ⟨q2, 1, none⟩ = some (.slice (some ⟨a, 0, none⟩) nA nA) := HT6.out.out.cell 1
  have y10 : w6.cell? ⟨q1, 0, none⟩ = some (.slice none 0 0) := HT6.out.res.cell 0
  have y11 : w6.cell? ⟨q1, 1, none⟩ = some (.slice none 0 0) := HT6.out.res.cell 1
  have y12 : w6.cell? ⟨q1, 2, none⟩ = some (.slice none 0 0) := HT6.out.res.cell 2
  have g10 := HT6.out.res.frozen 0
  have g11 := HT6.out.res.frozen 1
  have g12 := HT6.out.res.frozen 2
  have hw1 : w.heap.size ≤ q1 := by have := HQ.out; omega
  have HC6 : Hid (CopyRul nS nA nB s (fun i => (rA i).2.1) (fun i => (rB i).2.1) f g w.heap.size h w3.heap.size a G w5.heap.size b G2 w6) := Lib.hid ⟨HI5.out.keeps hk6, HM5.out.keeps hk6, hM2, HL3.out.2, HAL5.out.1, HAL5.out.2, HL3.out.1, HZ5.out⟩
  clear HT5 HI5 HM5 hM2 hk6 HAL5 HZ5 HL3 CB
  generalize w5.heap.size = p2 at *
  generalize w3.heap.size = p1 at *
  go_wp2
  have t1 := HT6.out.set2 h02 h12 hw2 (.slice (some ⟨b, 0, none⟩) nB nB)
  have m1 := HC6.out.set HT6.out.out (by decide) (by decide) 2 (.slice (some ⟨b, 0, none⟩) nB nB)
  have y1 := t1.res.set 0 (.slice (some ⟨h, 0, none⟩) nS nS)
  have m2 := m1.set t1.res (by decide) (by decide) 0 (.slice (some ⟨h, 0, none⟩) nS nS)
  have y2 := y1.set 1 (.slice (some ⟨a, 0, none⟩) nA nA)
  have m3 := m2.set y1 (by decide) (by decide) 1 (.slice (some ⟨a, 0, none⟩) nA nA)
  have m4 := m3.set y2 (by decide) (by decide) 2 (.slice (some ⟨b, 0, none⟩) nB nB)
  refine bodyPost_ret (v := .agg #[.slice (some ⟨h, 0, none⟩) nS nS, .slice (some ⟨a, 0, none⟩) nA nA, .slice (some ⟨b, 0, none⟩) nB nB]) (by simp [results, Try.results9, go_sem, y10, y11, y12]) rfl ⟨h, p1, a, G, p2, b, G2, rfl, m4, ?_⟩
  exact ((t1.keeps.setCell (p := ⟨q1, 0, none⟩) hw1 _).setCell (p := ⟨q1, 1, none⟩) hw1 _).setCell (p := ⟨q1, 2, none⟩) hw1 _
set_option maxHeartbeats 2000000 in
theorem xRules_true (S A B S' A' B' : Option Addr) (nS cS nA cA nB cB cS' cA' cB' : Nat) (s : Nat → Int) (rA rB rA' rB' : Nat → Option Addr × Nat × Nat) (f g : Nat → Nat → Int) (w : World) (hR : RulAt w S nS s A nA rA f B nB rB g) (hR' : RulAt w S' nS s A' nA rA' f B' nB rB' g) (hA : ∀ i, i < nA → (rA i).2.1 = (rA' i).2.1) (hB : ∀ i, i < nB → (rB i).2.1 = (rB' i).2.1) :
    Calls Try.prog 13 #[.agg #[.slice S nS cS, .slice A nA cA, .slice B nB cB], .agg #[.slice S' nS cS', .slice A' nA cA', .slice B' nB cB']] w fun e w' => e = .returned (.bool true) ∧ Keeps w w' := by
  have kA := (Keeps.alloc w (.cells #[.slice S nS cS, .slice A nA cA, .slice B nB cB] 28)).step (Keeps.alloc _ (.cells #[.slice S' nS cS', .slice A' nA cA', .slice B' nB cB'] 28))
  have HR := Lib.hid (hR.keeps kA)
  have HR' := Lib.hid (hR'.keeps kA)
  have HA := Lib.hid hA
  have HB := Lib.hid hB
  have HK := Lib.hid kA
  have HX : Hid (Blk ((w.alloc (.cells #[.slice S nS cS, .slice A nA cA, .slice B nB cB] 28)).alloc (.cells #[.slice S' nS cS', .slice A' nA cA', .slice B' nB cB'] 28)) w.heap.size 28 #[.slice S nS cS, .slice A nA cA, .slice B nB cB]) := Lib.hid ((Blk.new w _ _).keeps (Keeps.alloc _ _))
  have HY : Hid (Blk ((w.alloc (.cells #[.slice S nS cS, .slice A nA cA, .slice B nB cB] 28)).alloc (.cells #[.slice S' nS cS', .slice A' nA cA', .slice B' nB cB'] 28)) (w.heap.size + 1) 28 #[.slice S' nS cS', .slice A' nA cA', .slice B' nB cB']) := Lib.hid (blk_at (by simp) (Blk.new (w.alloc (.cells #[.slice S nS cS, .slice A nA cA, .slice B nB cB] 28)) _ _))
  clear hR hR' hA hB kA
  go_enter Try.func13, Try.ntmps13
  go_wp2_with fail
  generalize ((w.alloc (.cells #[.slice S nS cS, .slice A nA cA, .slice B nB cB] 28)).alloc (.cells #[.slice S' nS cS', .slice A' nA cA', .slice B' nB cB'] 28)) = w1 at *
  refine (xInts_true S S' nS cS cS' s s w1 HR.out.bS HR.out.says HR'.out.says (fun _ _ => rfl)).mono ?_
  rintro e w2 ⟨rfl, hk2⟩
  have HK2 := Lib.hid (HK.out.step hk2)
  have HX2 := Lib.hid (HX.out.keeps hk2)
  have HY2 := Lib.hid (HY.out.keeps hk2)
  have q1 : w2.cell? ⟨w.heap.size, 1, none⟩ = some (.slice A nA cA) := HX2.out.cell 1
  have q2 : w2.cell? ⟨w.heap.size + 1, 1, none⟩ = some (.slice A' nA cA') := HY2.out.cell 1
  have CA := Lib.hid (xRows_true A A' nA cA cA' rA rA' f f w2 HR.out.bA (HR.out.first.keeps hk2) (HR'.out.first.keeps hk2) HR.out.lA (fun i hi => ⟨HA.out i hi, fun _ _ => rfl⟩))
  have HS2 := Lib.hid (HR.out.second.keeps hk2)
  have HS2' := Lib.hid (HR'.out.second.keeps hk2)
  clear hk2 HX HY HK
  go_wp2_with fail
  refine CA.out.mono ?_
  rintro e w3 ⟨rfl, hk3⟩
  have q3 : w3.cell? ⟨w.heap.size, 2, none⟩ = some (.slice B nB cB) := (HX2.out.keeps hk3).cell 2
  have q4 : w3.cell? ⟨w.heap.size + 1, 2, none⟩ = some (.slice B' nB cB') := (HY2.out.keeps hk3).cell 2
  have CB := Lib.hid (xRows_true B B' nB cB cB' rB rB' g g w3 HR.out.bB (HS2.out.keeps hk3) (HS2'.out.keeps hk3) HR.out.lB (fun i hi => ⟨HB.out i hi, fun _ _ => rfl⟩))
  have HK3 := Lib.hid (HK2.out.step hk3)
  clear hk3 HX2 HY2 HK2 q1 q2 CA
  go_wp2_with fail
  refine CB.out.mono ?_
  rintro e w4 ⟨rfl, hk4⟩
  have HK4 := Lib.hid (HK3.out.step hk4)
  clear hk4 CB
  go_wp2
  go_ret
  exact ⟨rfl, HK4.out⟩
set_option maxRecDepth 100000 in
set_option maxHeartbeats 2000000 in
theorem markRules_any (nS nA nB : Nat) (s : Nat → Int) (LA LB : Nat → Nat) (f g : Nat → Nat → Int) (lo h p1 a p2 b hi : Nat) (G G2 : Nat → Nat) (w : World) (hS : nS ≤ 1048576) (hA : nA ≤ 1048576) (hB : nB ≤ 1048576) (hsum : nS + sumTo LA nA + sumTo LB nB ≤ 1048576) (hC : CopyRul nS nA nB s LA LB f g lo h p1 a G p2 b G2 w) (hb : ∀ i, i < nB → G2 i < hi) (hp : p2 ≤ hi) :
    Calls Try.prog 15 #[.agg #[.slice (some ⟨h, 0, none⟩) nS nS, .slice (some ⟨a, 0, none⟩) nA nA, .slice (some ⟨b, 0, none⟩) nB nB], .int .i64 1] w fun e w' => e = .returned (.int .i64 (1 + (nS : Nat) + (sumTo LA nA : Nat) + (sumTo LB nB : Nat))) ∧ Mid lo hi w w' := by
  have kk := Keeps.alloc w (.cells #[.slice (some ⟨h, 0, none⟩) nS nS, .slice (some ⟨a, 0, none⟩) nA nA, .slice (some ⟨b, 0, none⟩) nB nB] 28)
  have HB : Hid (Blk (w.alloc (.cells #[.slice (some ⟨h, 0, none⟩) nS nS, .slice (some ⟨a, 0, none⟩) nA nA, .slice (some ⟨b, 0, none⟩) nB nB] 28)) w.heap.size 28 #[.slice (some ⟨h, 0, none⟩) nS nS, .slice (some ⟨a, 0, none⟩) nA nA, .slice (some ⟨b, 0, none⟩) nB nB]) := Lib.hid (Blk.new w _ _)
  have HC := Lib.hid (hC.keeps kk)
  have HC0 := Lib.hid hC
  have HBB := Lib.hid hb
  have HK := Lib.hid kk
  clear hC hb kk
  obtain ⟨sA, hsA⟩ : ∃ x, x = sumTo LA nA := ⟨_, rfl⟩
  obtain ⟨sB, hsB⟩ : ∃ x, x = sumTo LB nB := ⟨_, rfl⟩
  rw [← hsA, ← hsB] at hsum ⊢
  go_enter Try.func15, Try.ntmps15
  go_wp2_with fail
  generalize w.alloc (.cells #[.slice (some ⟨h, 0, none⟩) nS nS, .slice (some ⟨a, 0, none⟩) nA nA, .slice (some ⟨b, 0, none⟩) nB nB] 28) = w1 at *
  have hh := HC0.out.says.block
  refine (markInts_any lo (some ⟨h, 0, none⟩) nS nS _ 1 w1 (by omega) (by omega) (by omega) HC.out.says).mono ?_
  rintro e w2 ⟨rfl, _, hg2⟩
  have m2 : Mid lo p1 w1 w2 := Mid.ofGrown hg2 (fun d hd => by simp at hd; subst hd; exact ⟨hh.1, HC.out.h1⟩)
  have z1 : p1 ≤ w.heap.size ∨ nA = 0 := by
    by_cases h0 : nA = 0
    · exact .inr h0
    · have := (HC0.out.first.blo a rfl); exact .inl (by omega)
  have lwa := HC0.out.first.blo a rfl
  have lwb := HC0.out.second.blo b rfl
  have q1 : w2.cell? ⟨w.heap.size, 1, none⟩ = some (.slice (some ⟨a, 0, none⟩) nA nA) := m2.cell (HB.out.cell 1) (.inr (by simp only; omega))
  have q1' : w2.cell? ⟨w.heap.size, 2, none⟩ = some (.slice (some ⟨b, 0, none⟩) nB nB) := m2.cell (HB.out.cell 2) (.inr (by simp only; omega))
  have hA2 := HC.out.first.mid m2 (fun k hk => .inr (by have := HC.out.first.blo k hk; omega)) (fun i hi k hk => .inr (by have := HC.out.first.rblo i hi k hk; omega))
  have hl2 := HC.out.l2
  have hB2 := HC.out.second.mid m2 (fun k hk => .inr (by have := HC.out.second.blo k hk; omega)) (fun i hi k hk => .inr (by have := HC.out.second.rblo i hi k hk; omega))
  have CA := Lib.hid (markMat_any p1 p2 nA nA (some ⟨a, 0, none⟩) (fun i => some ⟨G i, 0, none⟩) LA LA f (1 + (nS : Nat)) w2 hA (by omega) (by omega) (by omega) hA2 (fun i hi d hd => by have := HC.out.a2 i hi; simp at hd; omega))
  rw [← hsA] at CA
  have HB2 := Lib.hid hB2
  have M2 := Lib.hid m2
  have Q1' := Lib.hid q1'
  have HLW := Lib.hid (And.intro lwa lwb)
  clear hg2 m2 hA2 hB2 hsA q1' lwa lwb z1 hh
  go_wp2_with fail
  refine CA.out.mono ?_
  rintro e w3 ⟨rfl, _, hm3⟩
  have q3 : w3.cell? ⟨w.heap.size, 2, none⟩ = some (.slice (some ⟨b, 0, none⟩) nB nB) := hm3.cell Q1'.out (.inr (by have := HLW.out; simp only; omega))
  have hB3 := HB2.out.mid hm3 (fun k hk => .inr (by have := HB2.out.blo k hk; omega)) (fun i hi k hk => .inr (by have := HB2.out.rblo i hi k hk; omega))
  have CB := Lib.hid (markMat_any p2 hi nB nB (some ⟨b, 0, none⟩) (fun i => some ⟨G2 i, 0, none⟩) LB LB g (1 + (nS : Nat) + (sA : Nat)) w3 hB (by omega) (by omega) (by omega) hB3 (fun i hi d hd => by have := HBB.out i hi; simp at hd; omega))
  rw [← hsB] at CB
  have hl1 := HC.out.l1
  have M3 : Hid (Mid lo hi w w3) := Lib.hid (((Mid.ofKeeps HK.out).step (M2.out.wide (Nat.le_refl _) (by omega))).step (hm3.wide hl1 hp))
  clear hm3 hB3 hsB CA q1
  go_wp2_with fail
  refine CB.out.mono ?_
  rintro e w4 ⟨rfl, _, hm4⟩
  have M4 := Lib.hid (M3.out.step (hm4.wide (by omega) (Nat.le_refl _)))
  clear hm4 CB
  go_wp2
  go_ret
  exact ⟨rfl, M4.out⟩
end Go.Proofs.Ytknmbhlkppikpaa
