/-
  The contract of someNet of the generator: whatever the code is, a net in new memory. Condition: at most 800 picks so far.
-/
import Derived.Test.YtdjilgbcpdlkfaaGoodNet
import Derived.Test.YtdjilgbcpdlkfaaNetS
import Derived.Deep.RegionHeld3
namespace Go.Proofs.Ytdjilgbcpdlkfaa
open Go.RowKit

/-- What a net that was drawn is: it lies in new memory. -/
def NetGot (b p j : Nat) (w : World) (e : Ending) (w' : World) : Prop :=
  ∃ (m mm q : Nat) (A B : Option Addr) (c d : Nat) (r : Nat → Option Addr × Nat × Nat) (L : Nat → Nat) (X : Nat → Nat → Int) (M : Nat → Int), e = .returned (.agg #[.slice A m c, .slice B mm d]) ∧ NetNew w' w.heap.size A m r B mm L X M ∧ (∀ i, i < m → L i ≤ 8) ∧ 1 ≤ m ∧ m ≤ 6 ∧ mm ≤ 7 ∧ Rd w' b q ∧ q ≤ p + j ∧ Gro b w w'
/-- The net that is drawn, behind what was done to it. -/
def SomeB (b lo R V m mm q : Nat) (w : World) (A : Option Addr) (cA : Nat) (B : Option Addr) (cB : Nat) (wx : World) : Prop :=
  Blk wx R 27 #[.slice none 0 0, .slice none 0 0] ∧ Blk wx V 27 #[.slice A m cA, .slice B mm cB] ∧ (∃ (r : Nat → Option Addr × Nat × Nat) (L : Nat → Nat) (X : Nat → Nat → Int) (M : Nat → Int), NetS wx (Free lo R V) A m r B mm L X M ∧ ∀ i, i < m → L i ≤ 8) ∧ Rd wx b q ∧ Gro b w wx
section
variable {b lo R V m mm q cA cB : Nat} {w wx wy : World} {A B : Option Addr}
theorem NetS.keeps {w w' : World} {S : Nat → Prop} {A B : Option Addr} {m mm : Nat} {r : Nat → Option Addr × Nat × Nat} {L : Nat → Nat} {X : Nat → Nat → Int} {M : Nat → Int} (h : NetS w S A m r B mm L X M) (k : Keeps w w') : NetS w' S A m r B mm L X M :=
  h.grown (row := none) ⟨k.os, k.tape, k.output, k.size, fun i hi _ => k.block i hi⟩ (fun x hx => by cases hx)
theorem SomeB.keeps (h : SomeB b lo R V m mm q w A cA B cB wx) (k : Keeps wx wy) : SomeB b lo R V m mm q w A cA B cB wy := by
  obtain ⟨h1, h2, ⟨r, L, X, M, h3, h4⟩, h5, h6⟩ := h
  exact ⟨h1.keeps k, h2.keeps k, ⟨r, L, X, M, h3.keeps k, h4⟩, h5.gro k, h6.step (Gro.ofKeeps k)⟩
end
set_option maxRecDepth 100000 in
set_option maxHeartbeats 40000000 in
theorem someNet_any (b p : Nat) (w : World) (h : Rd w b p) (hp : p ≤ 800) :
    Calls Try.prog 57 #[.pointer (some ⟨b, 0, none⟩)] w (NetGot b p 160 w) := by
  have HR := Lib.hid h
  clear h
  have hbw := HR.out.lt
  go_enter Try.func57, Try.ntmps57
  go_wp2_with fail
  refine (goodNet_any b p _ (HR.out.gro (Keeps.alloc _ _)) hp).mono ?_
  rintro e w1 ⟨m, q, A, B, cA, cB, rfl, hN1, hm1, hm6, hR1, hq, hG1⟩
  have hBR1 : Blk w1 w.heap.size 27 #[.slice none 0 0, .slice none 0 0] := (Blk.new w _ _).grown hG1 (by simp; omega)
  have hGG1 : Gro b w w1 := (Gro.ofKeeps (Keeps.alloc w _)).step hG1
  have hRV := hBR1.lt
  have kV := Keeps.alloc w1 (.cells #[.slice A m cA, .slice B m cB] 27)
  have HBR2 := Lib.hid (hBR1.keeps kV)
  have HBV2 := Lib.hid (Blk.new w1 #[.slice A m cA, .slice B m cB] 27)
  have HN2 := Lib.hid ((hN1.mono (lo' := w.heap.size) (by simp)).keeps kV)
  have HRd2 := Lib.hid (hR1.gro kV)
  have HG2 := Lib.hid (hGG1.step (Gro.ofKeeps kV))
  clear hN1 hR1 hG1 hBR1 hGG1 kV
  go_wp2_with fail
  refine (pick_any b q 30 _ HRd2.out (by omega)).mono ?_
  rintro e w3 ⟨k, rfl, hk, hR3, hG3⟩
  have hbV : b < w1.heap.size := by omega
  have HBR := Lib.hid (HBR2.out.grown hG3 (by simp; omega))
  have HBV := Lib.hid (HBV2.out.grown hG3 (by simp; omega))
  have HN := Lib.hid (by obtain ⟨cs, hb⟩ := HRd2.out.blk; exact HN2.out.grown hG3 hb (by decide) (by decide))
  have HG := Lib.hid (HG2.out.step hG3)
  have HRd := Lib.hid hR3
  clear HBR2 HBV2 HN2 HRd2 HG2 hR3 hG3
  generalize w1.heap.size = V at *
  go_upto_block 0 with fail
  go_cut [] (fun wx => ∃ (mm q cA cB : Nat) (A B : Option Addr), mm ≤ 7 ∧ q ≤ p + 155 ∧ Hid (SomeB b w.heap.size w.heap.size V m mm q w A cA B cB wx))
  case first =>
    obtain ⟨gA, ra, n0, c0, rfl, hc0, hf0, hn7, hnc, hc63, hgA1, hgA2, hra⟩ := HN.out.head hm1
    have v0 : w3.cell? ⟨V, 0, none⟩ = some (.slice (some ⟨gA, 0, none⟩) m cA) := by rw [HBV.out.cell]; rfl
    have v1 : w3.cell? ⟨V, 1, none⟩ = some (.slice B m cB) := by rw [HBV.out.cell]; rfl
    have fv0 := HBV.out.frozen 0
    have fv1 := HBV.out.frozen 1
    have zV := HBV.out.lt
    have hm0 : 0 < m := by omega
    have hm0i : (0 : Int) < m := by omega
    have hgAV : gA ≠ V := fun e => by
      obtain ⟨Ad, Ln, Cp, X, M, q1, _⟩ := HN.out
      exact own_ne q1.top HBV.out (by decide) gA 0 rfl e
    have hgAR : gA ≠ w.heap.size := fun e => by
      obtain ⟨Ad, Ln, Cp, X, M, q1, _⟩ := HN.out
      exact own_ne q1.top HBR.out (by decide) gA 0 rfl e
    have hgAb : gA ≠ b := by omega
    by_cases k0 : k = 0
    · subst k0
      obtain ⟨gB, xB, rfl, hcB, hfB, hgB1, hgB2, hgBne⟩ := HN.out.mark0 hm1
      have hgBV : gB ≠ V := hgBne _ _ HBV.out
      have hgBR : gB ≠ w.heap.size := hgBne _ _ HBR.out
      have hgBb : gB ≠ b := by omega
      have hVb : V ≠ b := by omega
      clear hgBne
      go_wp2_with fail
      go_region_held3 (fun w' => w'.cell? ⟨V, 1, none⟩ = some (.slice (some ⟨gB, 0, none⟩) m cB)) (first | exact hG5.cell (by assumption) hVb | go_keep) (first | (go_at_call 45; refine (one_lit_d b (q + 1) [-1, 21] (-1) 21 _ _ _ _ (by decide) (by decide) (by decide) (by omega) HRd.out rfl rfl rfl).mono ?_; rintro e w5 ⟨x, rfl, hx1, hx2, hR5, hG5⟩; have hd5 := hG5.cell (cell_keeps ((Keeps.alloc _ _).step (Keeps.drew1 _)) hcB) hgBb; have hN5 : OwnNet w5 w.heap.size (some ⟨gA, 0, none⟩) m cA (some ⟨gB, 0, none⟩) m cB := (by obtain ⟨cs, hb⟩ := HRd.out.blk; exact (HN.out.keeps ((Keeps.alloc w3 (.cells #[.int .i64 (-1), .int .i64 21] 3)).step (Keeps.drew1 _))).grown hG5 (hb.keeps ((Keeps.alloc w3 (.cells #[.int .i64 (-1), .int .i64 21] 3)).step (Keeps.drew1 _))) (by decide) (by decide)); have fd5 : w5.frozen? ⟨gB, 0, none⟩ = false := (by obtain ⟨_, _, e', _, hf', _⟩ := hN5.mark0 hm1; cases e'; exact hf')))
      go_wp2_with fail
      go_meet
      have kk5 : Keeps w3 (w3.alloc (.cells #[.int .i64 (-1), .int .i64 21] 3)).drew := (Keeps.alloc _ _).step (Keeps.drew1 _)
      have hV5 := (HBV.out.keeps kk5).grown hG5 (by simp; omega)
      have hB5 := (HBR.out.keeps kk5).grown hG5 (by simp; omega)
      have hG5' := (HG.out.step (Gro.ofKeeps kk5)).step hG5
      have hV6 : Blk (w5.setCell ⟨gB, 0, none⟩ (.int .i64 x)) V 27 _ := hV5.set_other _ _ (fun e => hgBV e.symm)
      have hB6 : Blk (w5.setCell ⟨gB, 0, none⟩ (.int .i64 x)) w.heap.size 27 _ := hB5.set_other _ _ (fun e => hgBR e.symm)
      exact ⟨m, q + 2, cA, cB, _, _, by omega, by omega, Lib.hid ⟨hB6, hV6, (hN5.setMark 0 x).newS hB6 hV6 (by omega) (by omega), hR5.set_other (by omega) _, hG5'.setAbove (by omega) _⟩⟩
    · have k0' : ((k : Int) == 0) = false := by simp; omega
      by_cases k1 : k = 1
      · subst k1
        by_cases hn0 : n0 = 0
        · subst hn0
          have HST : Hid (SomeB b w.heap.size w.heap.size V m m (q + 1) w (some ⟨gA, 0, none⟩) cA B cB w3) := Lib.hid ⟨HBR.out, HBV.out, HN.out.newS HBR.out HBV.out (by omega) (by omega), HRd.out, HG.out⟩
          go_wp2_with fail
          go_meet
          exact ⟨m, q + 1, cA, cB, _, B, by omega, by omega, HST⟩
        · obtain ⟨x, rfl⟩ := hra (by omega)
          obtain ⟨n1, rfl⟩ : ∃ n1, n0 = n1 + 1 := ⟨n0 - 1, by omega⟩
          obtain ⟨c1, rfl⟩ : ∃ c1, c0 = c1 + 1 := ⟨c0 - 1, by omega⟩
          have hpos : (0 : Int) < ((n1 + 1 : Nat) : Int) := by omega
          by_cases hc1 : c1 = 0
          · subst hc1
            have HC := HN.out.cut0 (ra' := some ⟨x, 0, none⟩) (m := n1) (kk := 0) HBR.out HBV.out hm1 (by omega) (by omega) hc0 (fun h => absurd h (Nat.lt_irrefl _)) (fun _ => rfl)
            have hn1z : n1 = 0 := by omega
            subst hn1z
            have HST : Hid (SomeB b w.heap.size w.heap.size V m m (q + 1) w (some ⟨gA, 0, none⟩) cA B cB (w3.setCell ⟨gA, 0, none⟩ (.slice (some ⟨x, 0, none⟩) 0 0))) := Lib.hid ⟨HBR.out.set_other _ _ (fun e => hgAR e.symm), HBV.out.set_other _ _ (fun e => hgAV e.symm), HC, HRd.out.set_other (by omega) _, HG.out.setAbove (by omega) _⟩
            clear HC
            go_wp2_with fail
            go_region
            all_goals
              go_wp2_with fail
              go_meet
              exact ⟨m, q + 1, cA, cB, _, B, by omega, by omega, Lib.hid (HST.out.keeps (Keeps.drew1 _))⟩
          · have HC := HN.out.cut0 (ra' := some ⟨x, 1, none⟩) (m := n1) (kk := c1) HBR.out HBV.out hm1 (by omega) (by omega) hc0 (fun _ => rfl) (fun h => absurd h hc1)
            have hc1p : (1 : Int) < ((c1 + 1 : Nat) : Int) := by omega
            have HST : Hid (SomeB b w.heap.size w.heap.size V m m (q + 1) w (some ⟨gA, 0, none⟩) cA B cB (w3.setCell ⟨gA, 0, none⟩ (.slice (some ⟨x, 1, none⟩) n1 c1))) := Lib.hid ⟨HBR.out.set_other _ _ (fun e => hgAR e.symm), HBV.out.set_other _ _ (fun e => hgAV e.symm), HC, HRd.out.set_other (by omega) _, HG.out.setAbove (by omega) _⟩
            clear HC
            go_wp2_with fail
            go_region
            all_goals
              go_wp2_with fail
              go_meet
              exact ⟨m, q + 1, cA, cB, _, B, by omega, by omega, Lib.hid (HST.out.keeps (Keeps.drew1 _))⟩
      · have k1' : ((k : Int) == 1) = false := by simp; omega
        by_cases k2 : k = 2
        · subst k2
          have kk5 : Keeps w3 (w3.alloc (.cells #[.int .i64 0, .int .i64 6, .int .i64 (-1)] 3)).drew := (Keeps.alloc _ _).step (Keeps.drew1 _)
          have hVb : V ≠ b := by omega
          have HK5 := Lib.hid kk5
          clear kk5
          go_wp2_with fail
          go_region_law (first | (refine step_go 45 #[.tmp 40, .tmp 41] #[44, 23] rfl rfl (fun _ _ => rfl) (by simp [Act.eval, Act.put]) (one_lit_d b (q + 1) [0, 6, -1] (-1) 6 _ _ _ _ (by decide) (by decide) (by decide) (by omega) HRd.out rfl rfl rfl) ?_; rintro e w5 ⟨x, rfl, hx1, hx2, hR5, hG5⟩; refine ⟨_, rfl, ?_⟩; have hV5 := (HBV.out.keeps HK5.out).grown hG5 (by simp; omega); have s50 : w5.cell? ⟨V, 0, none⟩ = some (.slice (some ⟨gA, 0, none⟩) m cA) := (by rw [hV5.cell]; rfl); have t50 := hG5.cell (cell_keeps HK5.out hc0) hgAb; have HN5 := Lib.hid (by obtain ⟨cs, hb⟩ := HRd.out.blk; exact (HN.out.keeps HK5.out).grown hG5 (hb.keeps HK5.out) (by decide) (by decide)); have HB5 := Lib.hid ((HBR.out.keeps HK5.out).grown hG5 (by simp; omega)); have HV5 := Lib.hid hV5; have HG5 := Lib.hid ((HG.out.step (Gro.ofKeeps HK5.out)).step hG5); have HR5 := Lib.hid hR5; have zV5 := hV5.lt; have kU := Lib.hid (Keeps.alloc w5 (.cells #[.int .i64 x] 3)); have zA5 : gA < w5.heap.size := (by obtain ⟨_, _, _, _, e', _, _, _, _, _, _, hlt', _⟩ := HN5.out.head hm1; cases e'; exact hlt')) | (refine step_netRow0 rfl (.tmp 39) (.tmp 43) rfl w.heap.size w.heap.size V gA m cA m cB n0 c0 B ra _ _ _ (by simp [Act.eval]) (HN5.out.keeps kU.out) (HB5.out.keeps kU.out) (HV5.out.keeps kU.out) hm1 (by omega) (by omega) hn7 (cell_keeps kU.out t50) w5.heap.size x (Blk.new _ _ _) (by simp [Act.eval]) (HG5.out.step (Gro.ofKeeps kU.out)).size ?_; intro g7 c7 w7 hS7 hg7 hz7; have t7 : w7.cell? ⟨gA, 0, none⟩ = some (.slice ra n0 c0) := World.grownBy.cell hg7 (cell_keeps kU.out t50) (fun e => (hz7 _ e.symm).2.1 rfl); have f7 : w7.frozen? ⟨gA, 0, none⟩ = false := (World.grownBy.frozen_far hg7 ⟨gA, 0, none⟩ (Nat.lt_of_lt_of_le zA5 kU.out.size) (fun e => (hz7 _ e.symm).2.1 rfl)).trans (by obtain ⟨_, _, _, _, e', _, hf', _⟩ := (HN5.out.keeps kU.out).head hm1; cases e'; exact hf'); have s7 : w7.cell? ⟨V, 0, none⟩ = some (.slice (some ⟨gA, 0, none⟩) m cA) := World.grownBy.cell hg7 (cell_keeps kU.out s50) (fun e => (hz7 _ e.symm).2.2.2 rfl)))
          all_goals
            go_wp2_with fail
            go_meet
            have hB7 : Blk w7 w.heap.size 27 _ := (HB5.out.keeps kU.out).grown hg7 (fun e => (hz7 _ e.symm).2.2.1 rfl)
            have hV7 : Blk w7 V 27 _ := (HV5.out.keeps kU.out).grown hg7 (fun e => (hz7 _ e.symm).2.2.2 rfl)
            have hR7 : Rd w7 b (q + 2) := (HR5.out.gro kU.out).grown hg7 (fun x hx => Nat.lt_of_lt_of_le hbw (hz7 x hx).1)
            have hG7 : Gro b w w7 := (HG5.out.step (Gro.ofKeeps kU.out)).above hg7 (fun x hx => (hz7 x hx).1)
            exact ⟨m, q + 2, cA, cB, _, B, by omega, by omega, Lib.hid ⟨hB7.set_other _ _ (fun e => hgAR e.symm), hV7.set_other _ _ (fun e => hgAV e.symm), hS7, hR7.set_other (by omega) _, hG7.setAbove (by omega) _⟩⟩
        · have k2' : ((k : Int) == 2) = false := by simp; omega
          by_cases k3 : k = 3
          · subst k3
            have kU := Keeps.alloc w3 (.cells #[.int .i64 0] 3)
            have HN4 := Lib.hid (HN.out.keeps kU)
            have HBV4 := Lib.hid (HBV.out.keeps kU)
            have HBR4 := Lib.hid (HBR.out.keeps kU)
            have HRd4 := Lib.hid (HRd.out.gro kU)
            have HG4 := Lib.hid (HG.out.step (Gro.ofKeeps kU))
            have hz4 := HG4.out.size
            clear kU
            go_wp2_with (first | (at_builtin; refine wp_netMark rfl _ _ rfl w.heap.size (some ⟨gA, 0, none⟩) B m cA m cB _ rfl HN4.out _ 0 (Blk.new _ _ _) rfl (by omega) hz4 ?_; intro g6 c6 w6 hN6 hg6; have hV6 := HN4.out.blkB hg6 HBV4.out (by decide); have s6 : w6.cell? ⟨V, 1, none⟩ = some (.slice B m cB) := (by rw [hV6.cell]; rfl); have f6 := hV6.frozen 1; have zV6 := hV6.lt))
            go_meet
            have hB6 := HN4.out.blkB hg6 HBR4.out (by decide)
            have hR6 : Rd w6 b (q + 1) := HRd4.out.grown hg6 (fun x hx => Nat.lt_of_lt_of_le hbw (HN4.out.blo x hx))
            have hG6 : Gro b w w6 := HG4.out.above hg6 HN4.out.blo
            have hV7 := hV6.set 1 (.slice (some ⟨g6, 0, none⟩) (m + 1) c6)
            have hB7 : Blk (w6.setCell ⟨V, 1, none⟩ (.slice (some ⟨g6, 0, none⟩) (m + 1) c6)) w.heap.size 27 _ := hB6.set_other _ _ (by simp; omega)
            exact ⟨m + 1, q + 1, cA, c6, _, _, by omega, by omega, Lib.hid ⟨hB7, hV7, (hN6.grown (grown_set _ _ _ _) hV6 (by decide) (by decide)).newS hB7 hV7 (by omega) (by omega), hR6.set_other (by omega) _, hG6.setAbove (by omega) _⟩⟩
          · have k3' : ((k : Int) == 3) = false := by simp; omega
            have HST : Hid (SomeB b w.heap.size w.heap.size V m m (q + 1) w (some ⟨gA, 0, none⟩) cA B cB w3) := Lib.hid ⟨HBR.out, HBV.out, HN.out.newS HBR.out HBV.out (by omega) (by omega), HRd.out, HG.out⟩
            go_wp2_with fail
            go_meet
            exact ⟨m, q + 1, cA, cB, _, B, by omega, by omega, HST⟩
  case rest =>
    clear HBR HBV HN HG HRd
    obtain ⟨mm, q, cA, cB, A, B, hmm, hq, HST⟩ := hcut
    obtain ⟨hR, hV, ⟨r, L, X, M, hN, hL⟩, hRd, hG⟩ := HST.out
    have v0 : wc.cell? ⟨V, 0, none⟩ = some (.slice A m cA) := by rw [hV.cell]; rfl
    have v1 : wc.cell? ⟨V, 1, none⟩ = some (.slice B mm cB) := by rw [hV.cell]; rfl
    have c0 : wc.cell? ⟨w.heap.size, 0, none⟩ = some (.slice none 0 0) := by rw [hR.cell]; rfl
    have c1 : wc.cell? ⟨w.heap.size, 1, none⟩ = some (.slice none 0 0) := by rw [hR.cell]; rfl
    have f0 := hR.frozen 0
    have f1 := hR.frozen 1
    have hR2 := hR.set 0 (.slice A m cA)
    have HN5 := Lib.hid hN
    have HL5 := Lib.hid hL
    clear hN hL
    go_wp2_with fail
    have k1 := (hR2.set 1 (.slice B mm cB)).cell 0
    have k2 := (hR2.set 1 (.slice B mm cB)).cell 1
    refine bodyPost_ret (v := .agg #[.slice A m cA, .slice B mm cB]) (by simp [results, Try.results57, go_sem, k1, k2]) rfl ⟨m, mm, q, A, B, cA, cB, r, L, X, M, rfl, ?_, HL5.out, hm1, hm6, hmm, (hRd.set_other (by omega) _).set_other (by omega) _, by omega, (hG.setAbove (Nat.le_refl _) _).setAbove (Nat.le_refl _) _⟩
    refine NetS.new (NetS.mono ((HN5.out.grown (grown_set _ _ _ _) ?_).grown (grown_set _ _ _ _) ?_) (fun x hx => hx.1))
    · intro x hx hS
      cases hx
      exact hS.2.1 rfl
    · intro x hx hS
      cases hx
      exact hS.2.1 rfl
end Go.Proofs.Ytdjilgbcpdlkfaa
