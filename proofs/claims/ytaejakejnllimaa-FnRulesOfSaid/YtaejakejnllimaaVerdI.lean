/-
  impl.verdictOf: what a crowd always may come to say for ever. Conditions: valid rules and a crowd.
-/
import Derived.Test.YtaejakejnllimaaSteady
import Derived.Scope
import Derived.WalkMore
namespace Go.Proofs.Ytaejakejnllimaa
set_option maxRecDepth 100000
set_option linter.unusedVariables false
open Go.RowKit

section
variable (F G : Nat → Nat → Nat) (n : Nat) (s : Nat → Int)
/-- Of what is reached one says this for ever. -/
noncomputable def anyV (v : Int) (x : List Int) : Bool := (rchL F G n x).any (fun y => stead F G n s y == v)
variable {F G n s}
theorem canB_iff {c : List Int} {v : Int} {R : List Hdr} {k : Nat} (h : R.map (·.l) = rchL F G n c) (hk : R.length = k) : canB F G n s c v = true ↔ ∀ i, i < k → anyV F G n s v (R.getD i default).l = true := by
  unfold canB
  rw [← h, List.all_eq_true]
  constructor
  · intro h1 i hi
    exact h1 _ (getD_map (by omega))
  · intro h1 x hx
    obtain ⟨i, hi, rfl⟩ := mem_mapD hx
    exact h1 i (by omega)
theorem anyV_eq {x : List Int} {v : Int} {R : List Hdr} {k : Nat} (h : R.map (·.l) = rchL F G n x) (hk : R.length = k) : anyB (fun i => stead F G n s (R.getD i default).l == v) k = anyV F G n s v x := by
  unfold anyV
  rw [← h]
  cases hb : (R.map (·.l)).any (fun y => stead F G n s y == v)
  · rw [anyB_false]
    intro i hi
    rw [List.any_eq_false] at hb
    have := hb _ (getD_map (R := R) (i := i) (by omega))
    simpa using this
  · rw [anyB_iff]
    obtain ⟨y, hy, h1⟩ := List.any_eq_true.1 hb
    obtain ⟨i, hi, rfl⟩ := mem_mapD hy
    exact ⟨i, by omega, h1⟩
theorem verd_at {c : List Int} {v : Int} (hv : v = 0 ∨ v = 1) (h0 : ∀ u : Int, 0 ≤ u → u < v → canB F G n s c u = false) (h1 : canB F G n s c v = true) : verd F G n s c = v := by
  unfold verd
  rcases hv with rfl | rfl
  · rw [if_pos h1]
  · rw [if_neg (by rw [h0 0 (by omega) (by omega)]; simp), if_pos h1]
theorem verd_none {c : List Int} (h0 : ∀ u : Int, 0 ≤ u → u < 2 → canB F G n s c u = false) : verd F G n s c = -1 := by
  unfold verd
  rw [if_neg (by rw [h0 0 (by omega) (by omega)]; simp), if_neg (by rw [h0 1 (by omega) (by omega)]; simp)]
end
set_option maxRecDepth 100000 in
set_option maxHeartbeats 2000000 in
theorem verd1_any (bx by' : Nat) (v : Int) (S A B C : Option Addr) (n cS cA cB cC : Nat) (s : Nat → Int) (rA rB : Nat → Option Addr × Nat × Nat) (F G : Nat → Nat → Nat) (l : List Int) (w : World) (hR : RulN w S n s A rA F B rB G) (hl : Crw n l) (hC : Ints w C n (fun i => l.getD i 0)) (hb : Blk w bx 26 #[.slice S n cS, .slice A n cA, .slice B n cB]) (hv : w.cell? ⟨by', 0, none⟩ = some (.int .i64 v)) :
    Calls Try.prog 57 #[.slice C n cC, .pointer (some ⟨bx, 0, none⟩), .pointer (some ⟨by', 0, none⟩)] w fun e w' => e = .returned (.bool (stead F G n s l == v)) ∧ Keeps w w' := by
  have CS1 := Lib.hid (fun (W : World) (hK : Keeps w W) => steadyOf_any S A B C n cS cA cB cC s rA rB F G l W (hR.keeps hK) hl (hC.keeps hK))
  have b0 : w.cell? ⟨bx, 0, none⟩ = some (.slice S n cS) := hb.cell 0
  have b1 : w.cell? ⟨bx, 1, none⟩ = some (.slice A n cA) := hb.cell 1
  have b2 : w.cell? ⟨bx, 2, none⟩ = some (.slice B n cB) := hb.cell 2
  clear hR hl hC hb
  generalize stead F G n s l = sd at *
  go_enter Try.func57, Try.ntmps57
  go_upto_region 1 with fail
  go_region_law (first | (refine step_go 53 #[.tmp 5, .tmp 6] #[26, 23] rfl rfl (fun _ _ => rfl) (by simp [Act.eval]) (CS1.out _ (Keeps.drew1 _)) ?_; rintro e w4 ⟨rfl, hk4⟩; have hv4 := cell_keeps hk4 (cell_keeps (Keeps.drew1 _) hv); refine ⟨_, rfl, ?_⟩))
  all_goals
    have HK4 := Lib.hid ((Keeps.drew1 _).step hk4)
    clear hk4
    go_wp2_with fail
    go_ret
    exact ⟨rfl, HK4.out⟩
set_option maxRecDepth 100000 in
set_option maxHeartbeats 4000000 in
theorem verdictOf_any (S A B C : Option Addr) (n cS cA cB cC : Nat) (s : Nat → Int) (rA rB : Nat → Option Addr × Nat × Nat) (F G : Nat → Nat → Nat) (l : List Int) (w : World) (hR : RulN w S n s A rA F B rB G) (hl : Crw n l) (hC : Ints w C n (fun i => l.getD i 0)) :
    Calls Try.prog 34 #[.agg #[.slice S n cS, .slice A n cA, .slice B n cB], .slice C n cC] w fun e w' => e = .returned (.int .i64 (verd F G n s l)) ∧ Keeps w w' := by
  have hmf : ∀ (fn : Fn) (first cap : Array Value) (w : World), (Instr.makeFunc fn first cap).run Try.prog w = .ok (.func fn first cap) w := fun _ _ _ _ => rfl
  have hn1 := hR.n1
  have hn4 := hR.n4
  have kb := Keeps.alloc w (.cells #[.slice S n cS, .slice A n cA, .slice B n cB] 26)
  have HR := Lib.hid hR
  have HW := Lib.hid hl
  have HWL := Lib.hid hl.len
  have HC := Lib.hid hC
  have HB0 : Hid (Blk (w.alloc (.cells #[.slice S n cS, .slice A n cA, .slice B n cB] 26)) w.heap.size 26 #[.slice S n cS, .slice A n cA, .slice B n cB]) := Lib.hid (Blk.new w _ _)
  have HK0 : Hid (Keeps w (w.alloc (.cells #[.slice S n cS, .slice A n cA, .slice B n cB] 26))) := Lib.hid kb
  clear hR hl hC kb
  go_enter Try.func34, Try.ntmps34
  go_wp2_with fail
  generalize w.alloc (.cells #[.slice S n cS, .slice A n cA, .slice B n cB] 26) = w1 at *
  have b0 : w1.cell? ⟨w.heap.size, 0, none⟩ = some (.slice S n cS) := HB0.out.cell 0
  have b1 : w1.cell? ⟨w.heap.size, 1, none⟩ = some (.slice A n cA) := HB0.out.cell 1
  have b2 : w1.cell? ⟨w.heap.size, 2, none⟩ = some (.slice B n cB) := HB0.out.cell 2
  refine wp_scope_straight ?_
  go_wp2_with fail
  refine (reachedOf_any S A B C n cS cA cB cC s rA rB F G l w1 (HR.out.keeps HK0.out) HW.out (HC.out.keeps HK0.out)).mono ?_
  rintro e w2 ⟨R, g, k, rfl, hc, hrc, _, hr, hk2⟩
  have HK2 := Lib.hid (HK0.out.step hk2)
  have HB2 := Lib.hid (HB0.out.keeps hk2)
  have HCR := Lib.hid hr
  have hkl := hr.len
  have hkb : k ≤ 1296 := by
    have h1 := crowds_le (L := R.map (·.l)) hn4 (crowdsN R hc) (fun x hx => ((hrc x hx).crw HR.out.rul HW.out).1)
    rw [List.length_map] at h1
    omega
  have HCW : Hid (∀ i, i < k → Crw n (R.getD i default).l) := Lib.hid (fun i hi => ((hrc _ (getD_map (by omega))).crw HR.out.rul HW.out).1)
  have HIF : Hid (∀ v, canB F G n s l v = true ↔ ∀ i, i < k → anyV F G n s v (R.getD i default).l = true) := Lib.hid (fun v => canB_iff hc hkl)
  clear hc hrc hr hk2 HK0 HB0 hkl b0 b1 b2
  go_wp2_with fail
  refine wp_label ?_
  go_wp2_with fail
  go_loopw [12] (fun i wr => ∃ u : Nat, u ≤ 2 ∧ i = .int .i64 u ∧ Hid (Keeps w2 wr) ∧ Hid (∀ v : Int, 0 ≤ v → v < (u : Nat) → canB F G n s l v = false)) (fun i _ => 2 - (intOf i).toNat)
  case atStart => exact ⟨0, by omega, rfl, Lib.hid (Keeps.refl _), Lib.hid (fun v h1 h2 => by omega)⟩
  case round =>
    obtain ⟨u, hu, rfl, HKR, HA⟩ := hrel
    by_cases hlt : u < 2
    · have hui : (u : Int) < 2 := by omega
      have HKS := Lib.hid (HKR.out.step (Keeps.alloc wr (.cells #[.int .i64 u] 3)))
      have HYB : Hid (∀ W, Keeps (wr.alloc (.cells #[.int .i64 u] 3)) W → W.cell? ⟨wr.heap.size, 0, none⟩ = some (.int .i64 u)) := Lib.hid (fun W hK => by rw [((Blk.new wr #[.int .i64 u] 3).keeps hK).cell 0]; rfl)
      go_wp2_with fail
      generalize wr.alloc (.cells #[.int .i64 u] 3) = w4 at *
      generalize wr.heap.size = yb at *
      go_loopw [17] (fun q wi => ∃ i : Nat, i ≤ k ∧ q = .int .i64 i ∧ Hid (Keeps w4 wi) ∧ Hid (∀ q, q < i → anyV F G n s u (R.getD q default).l = true)) (fun q _ => k - (intOf q).toNat)
      case atStart => exact ⟨0, by omega, rfl, Lib.hid (Keeps.refl _), Lib.hid (fun q h => absurd h (Nat.not_lt_zero _))⟩
      case round =>
        clear HKR
        obtain ⟨i, hi, rfl, HKI, HAI⟩ := hrel
        by_cases hlti : i < k
        · have hii : (i : Int) < k := by omega
          have HKW := Lib.hid (HKS.out.step HKI.out)
          have hcell := (HCR.out.keeps HKW.out).cell i hlti
          have HXO := Lib.hid ((HCR.out.keeps HKW.out).rowD i hlti).ints
          have HX := Lib.hid (HCW.out i hlti)
          unfold Hdr.v at hcell
          rw [HX.out.len] at hcell HXO
          have HSTEP : Hid (∀ X, X = (R.getD i default).l → (anyV F G n s u X = true → ∀ q, q < i + 1 → anyV F G n s u (R.getD q default).l = true) ∧ (anyV F G n s u X = false → canB F G n s l u = false)) := Lib.hid (fun X hX => ⟨fun h q hq => by
            by_cases e : q = i
            · subst e; rw [← hX]; exact h
            · exact HAI.out q (by omega), fun h => by
            rw [Bool.eq_false_iff]
            intro hh
            have := (HIF.out u).1 hh i hlti
            rw [← hX, h] at this
            cases this⟩)
          obtain ⟨xg, hxg⟩ : ∃ x, x = (R.getD i default).g := ⟨_, rfl⟩
          obtain ⟨xc, hxc⟩ : ∃ x, x = (R.getD i default).c := ⟨_, rfl⟩
          obtain ⟨X, hX⟩ : ∃ x, x = (R.getD i default).l := ⟨_, rfl⟩
          rw [← hxg, ← hxc] at hcell
          rw [← hxg, ← hX] at HXO
          rw [← hX] at HX
          have HST := Lib.hid (HSTEP.out X hX)
          clear hxg hxc hX HSTEP
          have b0 : wr.cell? ⟨w.heap.size, 0, none⟩ = some (.slice S n cS) := (HB2.out.keeps HKW.out).cell 0
          have b1 : wr.cell? ⟨w.heap.size, 1, none⟩ = some (.slice A n cA) := (HB2.out.keeps HKW.out).cell 1
          have b2 : wr.cell? ⟨w.heap.size, 2, none⟩ = some (.slice B n cB) := (HB2.out.keeps HKW.out).cell 2
          go_wp2_with fail
          refine (reachedOf_any S A B (some ⟨xg, 0, none⟩) n cS cA cB xc s rA rB F G X wr (HR.out.keeps (HK2.out.step HKW.out)) HX.out HXO.out).mono ?_
          rintro e w5 ⟨R2, g2, k2, rfl, hc2, hrc2, _, hr2, hk5⟩
          have HK5 := Lib.hid (HKI.out.step hk5)
          have hk2l := hr2.len
          have hk2b : k2 ≤ 1296 := by
            have h1 := crowds_le (L := R2.map (·.l)) hn4 (crowdsN R2 hc2) (fun x hx => ((hrc2 x hx).crw HR.out.rul HX.out).1)
            rw [List.length_map] at h1
            omega
          have CC : Hid (Calls Try.prog 56 #[.slice (some ⟨g2, 0, none⟩) k2 k2, .func (.func 57) #[] #[.pointer (some ⟨w.heap.size, 0, none⟩), .pointer (some ⟨yb, 0, none⟩)]] w5 fun e w' => e = .returned (.bool (anyV F G n s u X)) ∧ Keeps w5 w') := Lib.hid (by
            have h := rowcontains_any 57 #[.pointer (some ⟨w.heap.size, 0, none⟩), .pointer (some ⟨yb, 0, none⟩)] (some ⟨g2, 0, none⟩) k2 k2 (hdrR R2) (numR R2) (fun i => stead F G n s (R2.getD i default).l == (u : Int)) w5 (by omega) hr2.rows (fun _ _ => rfl) (fun q w' hq hK => by
              have hcq := ((hrc2 _ (getD_map (i := q) (by omega))).crw HR.out.rul HX.out).1
              have hrow := ((hr2.rowD q hq).keeps hK).ints
              have h2 := verd1_any w.heap.size yb u S A B (some ⟨(R2.getD q default).g, 0, none⟩) n cS cA cB (R2.getD q default).c s rA rB F G (R2.getD q default).l w' (HR.out.keeps ((HK2.out.step (HKS.out.step HK5.out)).step hK)) hcq (by rw [hcq.len] at hrow; exact hrow) ((HB2.out.keeps (HKS.out.step HK5.out)).keeps hK) (HYB.out w' (HK5.out.step hK))
              unfold hdrR
              rw [hcq.len]
              exact h2)
            rw [anyV_eq hc2 hk2l] at h
            exact h)
          clear hc2 hrc2 hr2 hk5 hk2l b0 b1 b2 hcell HKW
          go_wp2_with fail
          refine CC.out.mono ?_
          rintro e w6 ⟨rfl, hk6⟩
          have HK6 := Lib.hid (HK5.out.step hk6)
          clear hk6 CC
          cases hb : anyV F G n s u X
          · have HF := Lib.hid (HST.out.2 hb)
            clear hb HST
            have HKN := Lib.hid (HKS.out.step HK6.out)
            go_wp2_with fail
            go_roundw
            case rel => exact ⟨u + 1, by omega, by go_num, HKN, Lib.hid (fun v h1 h2 => by
              by_cases e : v = (u : Nat)
              · subst e; exact HF.out
              · exact HA.out v h1 (by omega))⟩
            case measure => simp [intOf]; omega
          · have HT := Lib.hid (HST.out.1 hb)
            clear hb HST
            go_wp2_with fail
            go_roundw
            case rel => exact ⟨i + 1, by omega, by go_num, HK6, HT⟩
            case measure => simp [intOf]; omega
        · obtain rfl : i = k := by omega
          have hyb := HYB.out wr HKI.out
          have HFIN : Hid (verd F G n s l = (u : Nat)) := Lib.hid (verd_at (v := ((u : Nat) : Int)) (by omega) (fun v h1 h2 => HA.out v h1 h2) ((HIF.out u).2 HAI.out))
          go_wp2_with fail
          try rw [Exit.noGoto_ret]
          go_ret
          exact ⟨ret_int HFIN.out.symm, HK2.out.step (HKS.out.step HKI.out)⟩
    · obtain rfl : u = 2 := by omega
      have HFIN : Hid (verd F G n s l = -1) := Lib.hid (verd_none (fun v h1 h2 => HA.out v h1 (by simpa using h2)))
      go_wp2_with fail
      try rw [Exit.noGoto_ret]
      go_ret
      exact ⟨ret_int HFIN.out.symm, HK2.out.step HKR.out⟩
end Go.Proofs.Ytaejakejnllimaa
