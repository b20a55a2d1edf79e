/-
  laws.total, and the drawn rules of FnValidRules. Conditions: bounds.
-/
import Derived.Test.YtaejakejnllimaaDrawCrowd
import Derived.Test.YtaejakejnllimaaCrwOk
namespace Go.Proofs.Ytaejakejnllimaa
set_option linter.unusedVariables false
set_option maxRecDepth 100000
open Go.RowKit

set_option maxHeartbeats 1000000 in
theorem total_any (A : Option Addr) (c : Nat) (l : List Int) (w : World) (hl : l.length ≤ 1000) (hb : ∀ i, i < l.length → 0 ≤ l.getD i 0 ∧ l.getD i 0 ≤ 5) (hI : Ints w A l.length (fun i => l.getD i 0)) :
    Calls Try.prog 16 #[.slice A l.length c] w fun e w' => e = .returned (.int .i64 l.sum) ∧ w = w' := by
  have HI := Lib.hid hI
  have HB := Lib.hid hb
  have HS := Lib.hid (sum_bd l)
  have HT := Lib.hid (take_sum l)
  have HF : Hid ((l.take l.length).sum = l.sum) := Lib.hid (by rw [List.take_length])
  clear hI hb
  obtain ⟨m, hm⟩ : ∃ m, m = l.length := ⟨_, rfl⟩
  rw [← hm] at HI HB HS HT HF hl ⊢
  clear hm
  go_enter Try.func16, Try.ntmps16
  go_wp2
  go_loop [4, 3] (fun i v => ∃ j : Nat, j ≤ m ∧ i = .int .i64 j ∧ v = .int .i64 (l.take j).sum) (fun i _ => m - (intOf i).toNat)
  case atStart => exact ⟨0, by omega, rfl, by simp⟩
  case round =>
    obtain ⟨j, hj, rfl, rfl⟩ := hrel
    by_cases hlt : j < m
    · have hji : (j : Int) < m := by omega
      obtain ⟨d, off, rfl, hc⟩ := HI.out j hlt
      dsimp only at hc
      have h1 := HS.out j hj (fun i hi => HB.out i (by omega))
      have h2 := HB.out j hlt
      have HN := Lib.hid (HT.out j hlt)
      generalize he : (l.take (j + 1)).sum = t1 at *
      have HE := Lib.hid he
      clear he
      generalize (l.take j).sum = t0 at *
      generalize l.getD j 0 = x at *
      have hw : wrap64 (t0 + x) = t0 + x := by unfold wrap64; omega
      go_wp2
      go_round
      case rel => exact ⟨j + 1, by omega, by go_num, by rw [HE.out, HN.out]⟩
      case measure => simp [intOf]; omega
    · obtain rfl : j = m := by omega
      go_wp2
      go_ret
      exact ⟨ret_int HF.out, rfl⟩
set_option maxHeartbeats 2000000 in
theorem drawValidRules_any (a : Option Addr) (n c : Nat) (w : World) (hB : Bytes w w.heap.size a n) (hn : n ≤ 1099511627776) (hc : n ≤ c) (hc2 : c ≤ 9223372036854775807) :
    Calls Try.prog 13 #[.slice a n c] w fun e w' => ∃ (S A B : Option Addr) (nS cS nA cA nB cB : Nat) (s : Nat → Int) (rA rB : Nat → Option Addr × Nat × Nat) (f gg : Nat → Nat → Int), e = .returned (.agg #[.slice S nS cS, .slice A nA cA, .slice B nB cB]) ∧ RulAt w' S nS s A nA rA f B nB rB gg ∧ nS ≤ 4 ∧ Keeps w w' := by
  have HB := Lib.hid (hB.keeps (Keeps.alloc w (.cells #[.slice none 0 0, .slice none 0 0, .slice none 0 0] 26)))
  have HR := Lib.hid (Blk.new w #[.slice none 0 0, .slice none 0 0, .slice none 0 0] 26)
  have HK := Lib.hid (Keeps.alloc w (.cells #[.slice none 0 0, .slice none 0 0, .slice none 0 0] 26))
  have HZ : Hid (w.heap.size < (w.alloc (.cells #[.slice none 0 0, .slice none 0 0, .slice none 0 0] 26)).heap.size) := Lib.hid (by simp)
  clear hB
  go_enter Try.func13, Try.ntmps13
  go_wp2_with fail
  generalize w.alloc (.cells #[.slice none 0 0, .slice none 0 0, .slice none 0 0] 26) = w1 at *
  refine (newReader_any a n c w1 (fun i hi => by
    obtain ⟨b, off, e, h1, h2⟩ := HB.out i hi
    exact ⟨b, off, e, by have := HZ.out; omega, h2⟩) hn hc hc2).mono ?_
  rintro e w2 ⟨b, rfl, hR2, hb2, hk2⟩
  have HRD := Lib.hid hR2
  have HR2 := Lib.hid (HR.out.keeps hk2)
  have HK2 := Lib.hid (HK.out.step hk2)
  have HLO : Hid (w.heap.size < b) := Lib.hid (by have := HZ.out; omega)
  have HZ2 : Hid (w.heap.size < w2.heap.size) := Lib.hid (by have := HZ.out; have := hk2.size; omega)
  clear hR2 hb2 hk2 HR HK HB HZ
  go_wp2_with fail
  refine (someRules_any b 0 w2 HRD.out (by omega)).mono ?_
  rintro e w3 ⟨v, S, A, B, nS, cS, nA, cA, nB, cB, s, rA, rB, f, gg, q, rfl, hD⟩
  obtain rfl := hD.val
  have HAT := Lib.hid hD.at'
  have HN := Lib.hid hD.four
  have HR3 : Hid (Blk w3 w.heap.size 26 #[.slice none 0 0, .slice none 0 0, .slice none 0 0]) := Lib.hid (HR2.out.grown hD.gro (by have := HLO.out; simp; omega))
  have HK3 := Lib.hid (hD.gro.keeps HK2.out (by have := HLO.out; omega))
  have e0 : w3.cell? ⟨w.heap.size, 0, none⟩ = some (.slice none 0 0) := HR3.out.cell 0
  have e1 : w3.cell? ⟨w.heap.size, 1, none⟩ = some (.slice none 0 0) := HR3.out.cell 1
  have e2 : w3.cell? ⟨w.heap.size, 2, none⟩ = some (.slice none 0 0) := HR3.out.cell 2
  have f0 := HR3.out.frozen 0
  have f1 := HR3.out.frozen 1
  have f2 := HR3.out.frozen 2
  have hwz := HR3.out.lt
  clear hD
  go_wp2
  have y1 := ((HR3.out.set 0 (.slice S nS cS)).set 1 (.slice A nA cA)).set 2 (.slice B nB cB)
  have k0 := y1.cell 0
  have k1 := y1.cell 1
  have k2 := y1.cell 2
  have hr := HAT.out (((w3.setCell ⟨w.heap.size, 0, none⟩ (.slice S nS cS)).setCell ⟨w.heap.size, 1, none⟩ (.slice A nA cA)).setCell ⟨w.heap.size, 2, none⟩ (.slice B nB cB)) (fun i a1 a2 => by have := HZ2.out; rw [Below.heap_setCell _ _ _ _ (by simp only; omega), Below.heap_setCell _ _ _ _ (by simp only; omega), Below.heap_setCell _ _ _ _ (by simp only; omega)])
  refine bodyPost_ret (v := .agg #[.slice S nS cS, .slice A nA cA, .slice B nB cB]) (by simp [results, Try.results13, go_sem, k0, k1, k2]) rfl ⟨S, A, B, nS, cS, nA, cA, nB, cB, s, rA, rB, f, gg, rfl, hr, HN.out, ?_⟩
  exact ((HK3.out.setCell (p := ⟨w.heap.size, 0, none⟩) (Nat.le_refl _) _).setCell (p := ⟨w.heap.size, 1, none⟩) (Nat.le_refl _) _).setCell (p := ⟨w.heap.size, 2, none⟩) (Nat.le_refl _) _
end Go.Proofs.Ytaejakejnllimaa
