/-
  The reader's word among words, a text turned, numbers from none below 0, of the reference. Conditions: the reader's place; lengths.
-/
import Derived.Test.YtlniogfinofakaaGreatDoorRuAm
import Derived.Test.YtlniogfinofakaaGreatDoorRuAk
import Derived.Test.YtlniogfinofakaaGreatDoorRuAe
import Derived.Deep.RegionLaw
import Derived.Deep.CutBlock
import Derived.Deep.DeepCutAuto
import Derived.Test.YtlniogfinofakaaGreatDoorRuAd
import Derived.Deep.QuietTactic
import Derived.BigQuiet
namespace Go.Proofs.YtlniogfinofakaaGreatDoor
set_option maxRecDepth 100000
open Go.RowKit Go.Lib
set_option linter.unusedVariables false

theorem ofS_any (b p g : Nat) (l : List ByteArray) (w : World) (h : Rd w b p) (hp : p ≤ 1000000) (hn : 1 ≤ l.length) (hn2 : l.length ≤ 1000) (hB : Blk w g 9 (l.map Value.string).toArray) (hg : g ≠ b) :
    Calls Tryz.prog 25 #[.pointer (some ⟨b, 0, none⟩), .slice (some ⟨g, 0, none⟩) l.length l.length] w fun e w' => ∃ s, e = .returned (.string s) ∧ s ∈ l ∧ Rd w' b (p + 1) ∧ Gro b w w' := by
  have HR := Lib.hid h
  have HB := Lib.hid hB
  clear h hB
  go_enter Tryz.func25, Tryz.ntmps25
  go_wp2_with fail
  refine (pick_any b p (l.length : Int) w HR.out hp).mono ?_
  rintro e w1 ⟨k, rfl, hk, hR1, hG1⟩
  have hkl : k < l.length := by omega
  have hki : (k : Int) < l.length := by omega
  have hc : w1.cell? ⟨g, k, none⟩ = some (.string l[k]) := by
    rw [(HB.out.grown hG1 (by simp; omega)).cell k]
    simp [hkl]
  have HR1 := Lib.hid hR1
  have HG1 := Lib.hid hG1
  have HM : Hid (l[k] ∈ l) := Lib.hid (List.getElem_mem hkl)
  generalize l[k] = s at *
  clear hR1 hG1
  go_wp2_with fail
  go_ret
  exact ⟨s, rfl, HM.out, HR1.out, HG1.out⟩
theorem posOf_any (A : Option Addr) (n c : Nat) (x : Nat → Int) (w : World) (hn : n ≤ 1000000) (hx : ∀ i, i < n → x i ≤ 1000) (hI : Ints w A n x) :
    Calls Tryz.prog 20 #[.slice A n c] w fun e w' => ∃ g cc, e = .returned (.slice (some ⟨g, 0, none⟩) n cc) ∧ Ints w' (some ⟨g, 0, none⟩) n (fun i => (((x i).toNat : Nat) : Int)) ∧ Keeps w w' := by
  have HI := Lib.hid hI
  clear hI
  have HO0 := Lib.hid (OwnInts.made w w.heap.size (Nat.le_refl _))
  have HK0 := Lib.hid (Keeps.alloc w (.cells #[] 3))
  go_enter Tryz.func20, Tryz.ntmps20
  go_wp2_with fail
  go_loopw [3, 4] (fun o i wr => ∃ (k g cc : Nat), k ≤ n ∧ i = .int .i64 k ∧ o = .slice (some ⟨g, 0, none⟩) k cc ∧ Hid (OwnInts wr w.heap.size (some ⟨g, 0, none⟩) k cc ((List.range k).map fun i => (((x i).toNat : Nat) : Int))) ∧ Hid (Keeps w wr)) (fun _ i _ => n - (intOf i).toNat)
  case atStart => exact ⟨0, w.heap.size, 0, by omega, rfl, rfl, HO0, HK0⟩
  case round =>
    clear HO0 HK0
    obtain ⟨k, g, cc, hk, rfl, rfl, HO, HK⟩ := hrel
    by_cases hlt : k < n
    · have hki : (k : Int) < n := by omega
      obtain ⟨d, off, rfl, hc⟩ := HI.out.keeps HK.out k hlt
      have HN : Hid ((List.range (k + 1)).map (fun i => (((x i).toNat : Nat) : Int)) = ((List.range k).map fun i => (((x i).toNat : Nat) : Int)) ++ [(((x k).toNat : Nat) : Int)]) := Lib.hid (by rw [List.range_succ, List.map_append]; rfl)
      have hsz := HK.out.size
      have HMX : Hid ((if x k < 0 then 0 else x k) = (((x k).toNat : Nat) : Int)) := Lib.hid (by split <;> omega)
      generalize (((x k).toNat : Nat) : Int) = v at *
      generalize x k = z at *
      go_wp2_with (first | (at_builtin; refine wp_app_int rfl _ _ rfl w.heap.size (some ⟨g, 0, none⟩) k cc _ _ rfl HO.out _ rfl (by omega) hsz ?_; intro g6 c6 w6 hO6 hg6))
      go_roundw
      case rel => exact ⟨k + 1, g6, c6, by omega, by go_num, rfl, Lib.hid (by rw [HN.out, ← HMX.out]; exact hO6), Lib.hid (HK.out.grown HO.out (Nat.le_refl _) hg6)⟩
      case measure => simp [intOf]; omega
    · obtain rfl : k = n := by omega
      go_wp2_with fail
      go_ret
      refine ⟨g, cc, rfl, fun i hi => ?_, HK.out⟩
      obtain ⟨d, off, e, hc⟩ := HO.out.ints i hi
      refine ⟨d, off, e, ?_⟩
      rw [hc]
      simp [List.getD_eq_getElem?_getD, hi]
end Go.Proofs.YtlniogfinofakaaGreatDoor
/-
  mutate of the reference. Conditions: the reader's place; the text's length.
-/
namespace Go.Proofs.YtlniogfinofakaaGreatDoor
set_option maxRecDepth 100000
open Go.RowKit Go.Lib
set_option linter.unusedVariables false

theorem ofS_lit (b p : Nat) (l : List ByteArray) (cs : Array Value) (g n : Nat) (w : World) (h : Rd w b p) (hp : p ≤ 1000000) (h1 : 1 ≤ l.length) (h2 : l.length ≤ 1000) (hz : ∀ s ∈ l, s.size ≤ 20) (hcs : cs = (l.map Value.string).toArray) (hg : g = w.heap.size) (hn : n = l.length) :
    Calls Tryz.prog 25 #[.pointer (some ⟨b, 0, none⟩), .slice (some ⟨g, 0, none⟩) n n] (w.alloc (.cells cs 9)) fun e w' => ∃ s, e = .returned (.string s) ∧ s.size ≤ 20 ∧ Rd w' b (p + 1) ∧ Gro b w w' := by
  subst hcs
  subst hg
  subst hn
  have hk := Keeps.alloc w (.cells (l.map Value.string).toArray 9)
  refine (ofS_any b p w.heap.size l _ (h.gro hk) hp h1 h2 (Blk.new w _ _) (by have := h.lt; omega)).mono ?_
  rintro e w' ⟨s, rfl, hs, hr, hgr⟩
  exact ⟨s, rfl, hz s hs, hr, (Gro.ofKeeps hk).step hgr⟩
theorem ofS_lit_d (b p : Nat) (l : List ByteArray) (cs : Array Value) (g n : Nat) (w : World) (h : Rd w b p) (hp : p ≤ 1000000) (h1 : 1 ≤ l.length) (h2 : l.length ≤ 1000) (hz : ∀ s ∈ l, s.size ≤ 20) (hcs : cs = (l.map Value.string).toArray) (hg : g = w.heap.size) (hn : n = l.length) :
    Calls Tryz.prog 25 #[.pointer (some ⟨b, 0, none⟩), .slice (some ⟨g, 0, none⟩) n n] (w.alloc (.cells cs 9)).drew fun e w' => ∃ s, e = .returned (.string s) ∧ s.size ≤ 20 ∧ Rd w' b (p + 1) ∧ Gro b w w' := by
  refine (ofS_lit b p l cs g n w.drew (h.gro (Keeps.drew1 w)) hp h1 h2 hz hcs hg hn).mono ?_
  rintro e w' ⟨s, rfl, h3, h4, h5⟩
  exact ⟨s, rfl, h3, h4, (Gro.ofKeeps (Keeps.drew1 w)).step h5⟩
set_option maxHeartbeats 4000000 in
theorem mutate_any (b p : Nat) (s : ByteArray) (w : World) (h : Rd w b p) (hp : p ≤ 100000) (hs : s.size ≤ 100000) :
    Calls Tryz.prog 27 #[.pointer (some ⟨b, 0, none⟩), .string s] w fun e w' => ∃ s' q, e = .returned (.string s') ∧ s'.size ≤ s.size + 20 ∧ q ≤ p + 3 ∧ Rd w' b q ∧ Gro b w w' := by
  have HR := Lib.hid h
  clear h
  go_enter Tryz.func27, Tryz.ntmps27
  go_wp2_with fail
  refine (pick_any b p ((s.size : Int) + 1) w HR.out (by omega)).mono ?_
  rintro e w1 ⟨k, rfl, hk, hR1, hG1⟩
  have hks : k ≤ s.size := by omega
  have HR1 := Lib.hid hR1
  have HG1 := Lib.hid hG1
  clear hR1 hG1 hk
  go_wp2_with fail
  refine (pick_any b (p + 1) 5 w1 HR1.out (by omega)).mono ?_
  rintro e w2 ⟨y, rfl, hy, hR2, hG2⟩
  have HR2 := Lib.hid hR2
  have HG2 := Lib.hid (HG1.out.step hG2)
  clear hR2 hG2
  by_cases h01 : y = 0 ∨ y = 1
  · by_cases hlt : k < s.size
    · have hki : (k : Int) < s.size := by omega
      have CO := Lib.hid (ofS_lit_d b (p + 1 + 1) [⟨#[48]⟩, ⟨#[49]⟩, ⟨#[53]⟩, ⟨#[44]⟩, ⟨#[45]⟩, ⟨#[97]⟩, ⟨#[32]⟩] _ _ _ w2 HR2.out (by omega) (by decide) (by decide) (by decide) rfl rfl rfl)
      have hk1 : (0 : Int) ≤ (k : Int) + 1 := by omega
      have hk2 : (k : Int) + 1 ≤ (s.size : Int) := by omega
      have hwr : IntKind.i64.wrap ((k : Int) + 1) = (k : Int) + 1 := by rw [IntKind.wrap_i64]; omega
      rcases h01 with rfl | rfl
      all_goals
        go_wp2_with fail
        go_region_law (first | (refine step_go 25 #[.tmp 23, .tmp 24] #[42, 22] rfl rfl (fun _ _ => rfl) (by first | (simp [Act.eval]; done) | (simp [Act.eval, Act.put]; done) | rfl) (CO.out) ?_; rintro e w4 ⟨x, rfl, hx, hR4, hG4⟩; refine ⟨_, rfl, ?_⟩; have q1 : ¬ 9223372036854775807 < k + x.size := (by omega); have q2 : ¬ 9223372036854775807 < k + x.size + (s.size - (k + 1)) := (by omega)) | fail)
        all_goals go_wp2_with fail
        all_goals go_ret
        all_goals exact ⟨s.extract 0 k ++ x ++ s.extract (k + 1) s.size, _, rfl, by simp [ByteArray.size_append]; omega, by omega, hR4, HG2.out.step hG4⟩
    · have hki : ¬ (k : Int) < s.size := by omega
      rcases h01 with rfl | rfl
      all_goals go_wp2_with fail
      all_goals go_ret
      all_goals exact ⟨s, _, rfl, by omega, by omega, HR2.out, HG2.out⟩
  · have h0 : ((y : Int) == 0) = false := by simp; omega
    have h1 : ((y : Int) == 1) = false := by simp; omega
    clear h01
    by_cases h2 : y = 2
    · subst h2
      have hsz : (s.extract 0 k).size ≤ s.size + 20 := by simp; omega
      go_wp2_with fail
      go_ret
      exact ⟨_, _, rfl, by simpa using hsz, by omega, HR2.out, HG2.out⟩
    · have h2' : ((y : Int) == 2) = false := by simp; omega
      clear h2
      by_cases h3 : y = 3
      · subst h3
        have CO := Lib.hid (ofS_lit b (p + 1 + 1) [⟨#[48]⟩, ⟨#[44]⟩, ⟨#[32]⟩, ⟨#[44, 49]⟩] _ _ _ w2 HR2.out (by omega) (by decide) (by decide) (by decide) rfl rfl rfl)
        go_wp2_with fail
        refine (CO.out).mono ?_
        rintro e w3 ⟨x, rfl, hx, hR3, hG3⟩
        have HR3 := Lib.hid hR3
        have HG3 := Lib.hid (HG2.out.step hG3)
        clear hR3 hG3 CO
        go_wp2_with fail
        go_ret
        exact ⟨_, _, rfl, by simp [ByteArray.size_append]; omega, by omega, HR3.out, HG3.out⟩
      · have h3' : ((y : Int) == 3) = false := by simp; omega
        clear h3
        go_wp2_with fail
        go_ret
        exact ⟨s, _, rfl, by omega, by omega, HR2.out, HG2.out⟩
end Go.Proofs.YtlniogfinofakaaGreatDoor
