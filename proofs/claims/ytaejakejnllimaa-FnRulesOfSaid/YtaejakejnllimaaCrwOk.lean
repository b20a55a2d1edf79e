/-
  impl.crowdOk, and the reference's validRules and validCrowd. Conditions: lengths at most 2^40.
-/
import Derived.Test.YtaejakejnllimaaRul
namespace Go.Proofs.Ytaejakejnllimaa
set_option maxRecDepth 100000
set_option linter.unusedVariables false
open Go.RowKit

def crwB (n : Nat) (l : List Int) : Bool := (decide (l.length = n) && !anyB (fun i => !inB (l.getD i 0) 0 5) l.length) && decide (l.sum ≤ 5)
theorem crwB_iff {n : Nat} {l : List Int} : crwB n l = true ↔ Crw n l := by
  unfold crwB
  simp only [Bool.and_eq_true, Bool.not_eq_true', decide_eq_true_eq]
  rw [anyB_false]
  constructor
  · rintro ⟨⟨h1, h2⟩, h3⟩
    refine ⟨h1, pos_of_getD fun j hj => ?_, h3⟩
    exact (inB_true (by simpa using h2 j hj)).1
  · intro h
    refine ⟨⟨h.len, fun i hi => ?_⟩, h.sum⟩
    obtain ⟨h1, h2⟩ := h.at i (by rw [← h.len]; exact hi)
    rw [inB_mk h1 h2]; rfl
theorem take_sum (l : List Int) (j : Nat) (hj : j < l.length) : (l.take (j + 1)).sum = (l.take j).sum + l.getD j 0 := by
  rw [List.take_add_one, List.getElem?_eq_getElem hj, List.getD_eq_getElem?_getD, List.getElem?_eq_getElem hj, List.sum_append]
  simp
theorem sum_bd (l : List Int) : ∀ j, j ≤ l.length → (∀ i, i < j → 0 ≤ l.getD i 0 ∧ l.getD i 0 ≤ 5) → 0 ≤ (l.take j).sum ∧ (l.take j).sum ≤ 5 * (j : Int)
  | 0, _, _ => by simp
  | j + 1, h, hb => by
    have ih := sum_bd l j (by omega) (fun i hi => hb i (by omega))
    have := hb j (by omega)
    rw [take_sum l j (by omega)]
    omega
set_option maxHeartbeats 1000000 in
theorem crowdOk_any (S A B C : Option Addr) (nS cS nA cA nB cB cC : Nat) (s : Nat → Int) (rA rB : Nat → Option Addr × Nat × Nat) (f g : Nat → Nat → Int) (l : List Int) (w : World) (hR : RulAt w S nS s A nA rA f B nB rB g) (hC : Ints w C l.length (fun i => l.getD i 0)) (hl : l.length ≤ 1099511627776) :
    Calls Try.prog 33 #[.agg #[.slice S nS cS, .slice A nA cA, .slice B nB cB], .slice C l.length cC] w fun e w' => e = .returned (.bool (rulB nS s nA rA f nB rB g && crwB nS l)) ∧ Keeps w w' := by
  have hb := Blk.new w #[.slice S nS cS, .slice A nA cA, .slice B nB cB] 26
  have kb := Keeps.alloc w (.cells #[.slice S nS cS, .slice A nA cA, .slice B nB cB] 26)
  have HR := Lib.hid (hR.keeps kb)
  have HC := Lib.hid (hC.keeps kb)
  have hbS := hR.bS
  have HRI := Lib.hid (rulB_iff (nS := nS) (s := s) (nA := nA) (rA := rA) (f := f) (nB := nB) (rB := rB) (g := g))
  clear hR hC
  obtain ⟨w0, hw0⟩ : ∃ w0, w0 = w.alloc (.cells #[.slice S nS cS, .slice A nA cA, .slice B nB cB] 26) := ⟨_, rfl⟩
  have HB : Hid (∀ w', Keeps w0 w' → w'.cell? ⟨w.heap.size, 0, none⟩ = some (.slice S nS cS) ∧ w'.cell? ⟨w.heap.size, 1, none⟩ = some (.slice A nA cA) ∧ w'.cell? ⟨w.heap.size, 2, none⟩ = some (.slice B nB cB)) := Lib.hid (fun w' hk => by
    rw [← hw0] at hb
    have h := hb.keeps hk
    exact ⟨h.cell 0, h.cell 1, h.cell 2⟩)
  rw [← hw0] at HR HC kb
  have HK := Lib.hid kb
  clear hb kb
  have CV := Lib.hid (fun (w' : World) (hk : Keeps w0 w') => validRules_any S A B nS cS nA cA nB cB s rA rB f g w' (HR.out.keeps hk))
  generalize rulB nS s nA rA f nB rB g = V at *
  go_enter Try.func33, Try.ntmps33
  go_wp2_with fail
  rw [← hw0]
  clear hw0
  refine (CV.out _ (Keeps.refl w0)).mono ?_
  rintro e w1 ⟨rfl, hk1⟩
  have HK1 := Lib.hid hk1
  obtain ⟨d0, d1, d2⟩ := HB.out _ hk1
  clear hk1
  cases V
  · go_wp2_with fail
    go_ret
    exact ⟨rfl, HK.out.step HK1.out⟩
  · have H4 : Hid (nS ≤ 4) := Lib.hid (HRI.out.1 rfl).1.2
    clear HRI CV
    by_cases hn : l.length = nS
    · have hnb : ((l.length : Int) != (nS : Int)) = false := by simp; omega
      have hn4 : l.length ≤ 4 := by have := H4.out; omega
      have HN := Lib.hid hn
      have HCI := Lib.hid (crwB_iff (n := nS) (l := l))
      have HTS := Lib.hid (take_sum l)
      have HSB := Lib.hid (sum_bd l)
      have HTL : Hid ((l.take l.length).sum = l.sum) := Lib.hid (by rw [List.take_length])
      have HT0 : Hid ((l.take 0).sum = 0) := Lib.hid (by simp)
      obtain ⟨K, hKK⟩ : ∃ K, K = crwB nS l := ⟨_, rfl⟩
      rw [← hKK] at HCI
      have HKK : Hid (K = (true && crwB nS l)) := Lib.hid (by rw [hKK]; rfl)
      clear hKK
      generalize hLn : l.length = n at *
      obtain ⟨x, hx⟩ : ∃ x : Nat → Int, x = fun i => l.getD i 0 := ⟨_, rfl⟩
      have hx' : ∀ i, l.getD i 0 = x i := fun i => by rw [hx]
      obtain ⟨T, hT⟩ : ∃ T : Nat → Int, T = fun i => (l.take i).sum := ⟨_, rfl⟩
      have HTS2 : Hid (∀ j, j < n → T (j + 1) = T j + x j) := Lib.hid (fun j hj => by rw [hT, hx]; exact HTS.out j hj)
      have HSB2 : Hid (∀ j, j ≤ n → (∀ i, i < j → 0 ≤ x i ∧ x i ≤ 5) → 0 ≤ T j ∧ T j ≤ 5 * (j : Int)) := Lib.hid (by rw [hT, hx]; exact HSB.out)
      have HT02 : Hid (T 0 = 0) := Lib.hid (by rw [hT]; exact HT0.out)
      have HKT : Hid ((∀ i, i < n → 0 ≤ x i ∧ x i ≤ 5) → (K = true ↔ T n ≤ 5)) := Lib.hid (fun h => by
        rw [hT]
        dsimp only
        rw [HTL.out, HCI.out]
        exact ⟨fun h2 => h2.sum, fun h2 => ⟨by rw [hLn, HN.out], pos_of_getD (fun j hj => by rw [hx']; exact (h j (by omega)).1), h2⟩⟩)
      have HKF : Hid (∀ i, i < n → inB (x i) 0 5 = false → K = false) := Lib.hid (fun i hi h => by
        cases hK : K
        · rfl
        · have h2 := (HCI.out.1 hK).at i (by omega)
          rw [hx', ] at h2
          rw [inB_mk h2.1 h2.2] at h
          cases h)
      rw [← hx] at HC
      clear HTS HSB HTL HT0 HCI hx hx' hT hn hLn
      go_wp2_with fail
      go_loopw [21, 5] (fun i v wr => ∃ j : Nat, j ≤ n ∧ i = .int .i64 j ∧ v = .int .i64 (T j) ∧ Hid (∀ i, i < j → 0 ≤ x i ∧ x i ≤ 5) ∧ w1 = wr) (fun i _ _ => n - (intOf i).toNat)
      case atStart => exact ⟨0, by omega, rfl, by rw [HT02.out], Lib.hid (fun i hi => absurd hi (Nat.not_lt_zero _)), rfl⟩
      case round =>
        obtain ⟨j, hj, rfl, rfl, HA, rfl⟩ := hrel
        by_cases hlt : j < n
        · have hji : (j : Int) < n := by omega
          obtain ⟨d, off, rfl, hcx⟩ := HC.out.keeps HK1.out j hlt
          cases hin : inB (x j) 0 5
          · have HF := Lib.hid (HKF.out j hlt hin)
            have HIN := Lib.hid hin
            clear hin
            go_wp2_with fail
            refine (within_any _ _ _ _).mono ?_
            rintro e w2 ⟨rfl, rfl⟩
            rw [HIN.out]
            go_wp2_with fail
            go_ret
            exact ⟨ret_bool (HF.out.symm.trans HKK.out), HK.out.step HK1.out⟩
          · have hb := inB_true hin
            have hsb := HSB2.out j hj HA.out
            have HIN := Lib.hid hin
            have HX := Lib.hid hb
            have hw : wrap64 (T j + x j) = T (j + 1) := by rw [HTS2.out j hlt]; unfold wrap64; omega
            clear hin
            go_wp2_with fail
            refine (within_any _ _ _ _).mono ?_
            rintro e w2 ⟨rfl, rfl⟩
            rw [HIN.out]
            go_wp2_with fail
            go_roundw
            case rel =>
              refine ⟨j + 1, by omega, by go_num, by rw [HTS2.out j hlt], Lib.hid (fun i hi => ?_), trivial⟩
              by_cases e : i = j
              · rw [e]; exact HX.out
              · exact HA.out i (by omega)
            case measure => simp [intOf]; omega
        · obtain rfl : j = n := by omega
          have hKT := HKT.out HA.out
          have hsb := HSB2.out j (Nat.le_refl _) HA.out
          by_cases h5 : T j ≤ 5
          · have HF := Lib.hid (hKT.2 h5)
            clear hKT
            go_wp2_with fail
            go_ret
            exact ⟨ret_bool (HF.out.symm.trans HKK.out), HK.out.step HK1.out⟩
          · have HF : Hid (K = false) := Lib.hid (by
              cases hK : K
              · rfl
              · exact absurd (hKT.1 hK) h5)
            clear hKT
            go_wp2_with fail
            go_ret
            exact ⟨ret_bool (HF.out.symm.trans HKK.out), HK.out.step HK1.out⟩
    · have hnb : ((l.length : Int) != (nS : Int)) = true := by simp; omega
      have HV : Hid (false = crwB nS l) := Lib.hid (by unfold crwB; simp [hn])
      clear hn
      go_wp2_with fail
      go_ret
      exact ⟨ret_bool HV.out, HK.out.step HK1.out⟩
set_option maxHeartbeats 1000000 in
theorem validCrowd_any (S A B C : Option Addr) (nS cS nA cA nB cB cC : Nat) (l : List Int) (w : World) (hbS : nS ≤ 1099511627776) (hC : Ints w C l.length (fun i => l.getD i 0)) (hl : l.length ≤ 1099511627776) :
    Calls Try.prog 36 #[.agg #[.slice S nS cS, .slice A nA cA, .slice B nB cB], .slice C l.length cC] w fun e w' => e = .returned (.bool (crwB nS l)) ∧ Keeps w w' := by
  have hb := Blk.new w #[.slice S nS cS, .slice A nA cA, .slice B nB cB] 26
  have kb := Keeps.alloc w (.cells #[.slice S nS cS, .slice A nA cA, .slice B nB cB] 26)
  have HC := Lib.hid (hC.keeps kb)
  have HK := Lib.hid kb
  have d0 : (w.alloc (.cells #[.slice S nS cS, .slice A nA cA, .slice B nB cB] 26)).cell? ⟨w.heap.size, 0, none⟩ = some (.slice S nS cS) := hb.cell 0
  clear hC kb hb
  have HCI := Lib.hid (crwB_iff (n := nS) (l := l))
  have HTS := Lib.hid (take_sum l)
  have HSB := Lib.hid (sum_bd l)
  have HTL : Hid ((l.take l.length).sum = l.sum) := Lib.hid (by rw [List.take_length])
  have HT0 : Hid ((l.take 0).sum = 0) := Lib.hid (by simp)
  obtain ⟨K, hKK⟩ : ∃ K, K = crwB nS l := ⟨_, rfl⟩
  rw [← hKK] at HCI
  have HKK := Lib.hid hKK
  clear hKK
  obtain ⟨n, hLn⟩ : ∃ n, n = l.length := ⟨_, rfl⟩
  rw [← hLn] at HTS HSB HTL HC hl ⊢
  obtain ⟨x, hx⟩ : ∃ x : Nat → Int, x = fun i => l.getD i 0 := ⟨_, rfl⟩
  have hx' : ∀ i, l.getD i 0 = x i := fun i => by rw [hx]
  obtain ⟨T, hT⟩ : ∃ T : Nat → Int, T = fun i => (l.take i).sum := ⟨_, rfl⟩
  have HTS2 : Hid (∀ j, j < n → T (j + 1) = T j + x j) := Lib.hid (fun j hj => by rw [hT, hx]; exact HTS.out j hj)
  have HSB2 : Hid (∀ j, j ≤ n → (∀ i, i < j → 0 ≤ x i ∧ x i ≤ 5) → 0 ≤ T j ∧ T j ≤ 5 * (j : Int)) := Lib.hid (by rw [hT, hx]; exact HSB.out)
  have HT02 : Hid (T 0 = 0) := Lib.hid (by rw [hT]; exact HT0.out)
  have HKT : Hid ((∀ i, i < n → 0 ≤ x i ∧ x i ≤ 5) → n = nS → (K = true ↔ T n ≤ 5)) := Lib.hid (fun h hn => by
    rw [hT]
    dsimp only
    rw [HTL.out, HCI.out]
    exact ⟨fun h2 => h2.sum, fun h2 => ⟨by rw [← hLn, hn], pos_of_getD (fun j hj => by rw [hx']; exact (h j (by omega)).1), h2⟩⟩)
  have HKN : Hid (n ≠ nS → K = false) := Lib.hid (fun hn => by
    cases hK : K
    · rfl
    · exact absurd (hLn.trans (HCI.out.1 hK).len) hn)
  have HKF : Hid (∀ i, i < n → inB (x i) 0 5 = false → K = false) := Lib.hid (fun i hi h => by
    cases hK : K
    · rfl
    · have hc := HCI.out.1 hK
      have h2 := hc.le _ (mem_getD (l := l) (i := i) (by omega))
      rw [hx'] at h2
      rw [inB_mk h2.1 h2.2] at h
      cases h)
  rw [← hx] at HC
  clear HTS HSB HTL HT0 HCI hx hx' hT hLn
  go_enter Try.func36, Try.ntmps36
  go_wp2_with fail
  go_loopw [6, 5] (fun i v wr => ∃ j : Nat, j ≤ n ∧ i = .int .i64 j ∧ v = .int .i64 (T j) ∧ Hid (∀ i, i < j → 0 ≤ x i ∧ x i ≤ 5) ∧ (w.alloc (.cells #[.slice S nS cS, .slice A nA cA, .slice B nB cB] 26)) = wr) (fun i _ _ => n - (intOf i).toNat)
  case atStart => exact ⟨0, by omega, rfl, by rw [HT02.out], Lib.hid (fun i hi => absurd hi (Nat.not_lt_zero _)), rfl⟩
  case round =>
    obtain ⟨j, hj, rfl, rfl, HA, rfl⟩ := hrel
    by_cases hlt : j < n
    · have hji : (j : Int) < n := by omega
      obtain ⟨d, off, rfl, hcx⟩ := HC.out j hlt
      cases hin : inB (x j) 0 5
      · have HF := Lib.hid (HKF.out j hlt hin)
        have HIN := Lib.hid hin
        clear hin
        go_wp2_with fail
        refine (inRange_any _ _ _ _).mono ?_
        rintro e w2 ⟨rfl, rfl⟩
        rw [HIN.out]
        go_wp2_with fail
        go_ret
        exact ⟨ret_bool (HF.out.symm.trans HKK.out), HK.out⟩
      · have hb := inB_true hin
        have hsb := HSB2.out j hj HA.out
        have HIN := Lib.hid hin
        have HX := Lib.hid hb
        have hw : wrap64 (T j + x j) = T (j + 1) := by rw [HTS2.out j hlt]; unfold wrap64; omega
        clear hin
        go_wp2_with fail
        refine (inRange_any _ _ _ _).mono ?_
        rintro e w2 ⟨rfl, rfl⟩
        rw [HIN.out]
        go_wp2_with fail
        go_roundw
        case rel =>
          refine ⟨j + 1, by omega, by go_num, by rw [HTS2.out j hlt], Lib.hid (fun i hi => ?_), trivial⟩
          by_cases e : i = j
          · rw [e]; exact HX.out
          · exact HA.out i (by omega)
        case measure => simp [intOf]; omega
    · obtain rfl : j = n := by omega
      have hsb := HSB2.out j (Nat.le_refl _) HA.out
      by_cases hn : j = nS
      · have hKT := HKT.out HA.out hn
        have hnb : ((j : Int) == (nS : Int)) = true := by simp; omega
        clear hn
        by_cases h5 : T j ≤ 5
        · have HF := Lib.hid (hKT.2 h5)
          clear hKT
          go_wp2_with fail
          go_ret
          exact ⟨ret_bool (HF.out.symm.trans HKK.out), HK.out⟩
        · have HF : Hid (K = false) := Lib.hid (by
            cases hK : K
            · rfl
            · exact absurd (hKT.1 hK) h5)
          clear hKT
          go_wp2_with fail
          go_ret
          exact ⟨ret_bool (HF.out.symm.trans HKK.out), HK.out⟩
      · have hnb : ((j : Int) == (nS : Int)) = false := by simp; omega
        have HF := Lib.hid (HKN.out hn)
        clear hn
        go_wp2_with fail
        go_ret
        exact ⟨ret_bool (HF.out.symm.trans HKK.out), HK.out⟩
set_option maxRecDepth 100000 in
set_option maxHeartbeats 4000000 in
theorem svalidRules_any (S A B : Option Addr) (nS cS nA cA nB cB : Nat) (s : Nat → Int) (rA rB : Nat → Option Addr × Nat × Nat) (f g : Nat → Nat → Int) (w : World) (hR : RulAt w S nS s A nA rA f B nB rB g) :
    Calls Try.prog 35 #[.agg #[.slice S nS cS, .slice A nA cA, .slice B nB cB]] w fun e w' => e = .returned (.bool (rulB nS s nA rA f nB rB g)) ∧ Keeps w w' := by
  have hb := Blk.new w #[.slice S nS cS, .slice A nA cA, .slice B nB cB] 26
  have kb := Keeps.alloc w (.cells #[.slice S nS cS, .slice A nA cA, .slice B nB cB] 26)
  have HR := Lib.hid (hR.keeps kb)
  have hbS := hR.bS
  have HK := Lib.hid kb
  have d0 : (w.alloc (.cells #[.slice S nS cS, .slice A nA cA, .slice B nB cB] 26)).cell? ⟨w.heap.size, 0, none⟩ = some (.slice S nS cS) := hb.cell 0
  have d1 : (w.alloc (.cells #[.slice S nS cS, .slice A nA cA, .slice B nB cB] 26)).cell? ⟨w.heap.size, 1, none⟩ = some (.slice A nA cA) := hb.cell 1
  have d2 : (w.alloc (.cells #[.slice S nS cS, .slice A nA cA, .slice B nB cB] 26)).cell? ⟨w.heap.size, 2, none⟩ = some (.slice B nB cB) := hb.cell 2
  clear hR kb hb
  have HRI := Lib.hid (rulB_iff (nS := nS) (s := s) (nA := nA) (rA := rA) (f := f) (nB := nB) (rB := rB) (g := g))
  obtain ⟨V, hV⟩ : ∃ V, V = rulB nS s nA rA f nB rB g := ⟨_, rfl⟩
  rw [← hV] at HRI
  have HVV := Lib.hid hV
  clear hV
  have HVF : Hid (¬ ((1 ≤ nS ∧ nS ≤ 4) ∧ nA = nS ∧ nB = nS ∧ ∀ a, a < nS → (s a = 0 ∨ s a = 1) ∧ (rA a).2.1 = nS ∧ (rB a).2.1 = nS ∧ ∀ b, b < nS → (0 ≤ f a b ∧ f a b ≤ (nS : Int) - 1) ∧ (0 ≤ g a b ∧ g a b ≤ (nS : Int) - 1)) → false = rulB nS s nA rA f nB rB g) := Lib.hid (fun h => by
    rw [← HVV.out]
    cases hV : V
    · rfl
    · exact absurd (HRI.out.1 hV) h)
  have HVT : Hid (((1 ≤ nS ∧ nS ≤ 4) ∧ nA = nS ∧ nB = nS ∧ ∀ a, a < nS → (s a = 0 ∨ s a = 1) ∧ (rA a).2.1 = nS ∧ (rB a).2.1 = nS ∧ ∀ b, b < nS → (0 ≤ f a b ∧ f a b ≤ (nS : Int) - 1) ∧ (0 ≤ g a b ∧ g a b ≤ (nS : Int) - 1)) → true = rulB nS s nA rA f nB rB g) := Lib.hid (fun h => (HRI.out.2 h).symm.trans HVV.out)
  clear HRI HVV
  cases hin : inB nS 1 4
  · have HF := Lib.hid (HVF.out (fun h => by rw [inB_mk (by omega) (by omega)] at hin; cases hin))
    have HIN := Lib.hid hin
    clear hin
    go_enter Try.func35, Try.ntmps35
    go_wp2_with fail
    refine (inRange_any _ _ _ _).mono ?_
    rintro e w2 ⟨rfl, rfl⟩
    rw [HIN.out]
    go_wp2_with fail
    go_ret
    exact ⟨ret_bool HF.out, HK.out⟩
  · have hin4 := inB_true hin
    have HIN := Lib.hid hin
    clear hin
    by_cases hA : nA = nS
    · by_cases hB : nB = nS
      · have hAb : ((nA : Int) != (nS : Int)) = false := by simp; omega
        have hBb : ((nB : Int) != (nS : Int)) = false := by simp; omega
        have HAB := Lib.hid (And.intro hA hB)
        clear hA hB
        go_enter Try.func35, Try.ntmps35
        go_wp2_with fail
        refine (inRange_any _ _ _ _).mono ?_
        rintro e w2 ⟨rfl, rfl⟩
        rw [HIN.out]
        go_wp2_with fail
        go_loopw [4] (fun i wr => ∃ j : Nat, j ≤ nS ∧ i = .int .i64 j ∧ Hid (∀ a, a < j → (s a = 0 ∨ s a = 1) ∧ (rA a).2.1 = nS ∧ (rB a).2.1 = nS ∧ ∀ b, b < nS → (0 ≤ f a b ∧ f a b ≤ (nS : Int) - 1) ∧ (0 ≤ g a b ∧ g a b ≤ (nS : Int) - 1)) ∧ (w.alloc (.cells #[.slice S nS cS, .slice A nA cA, .slice B nB cB] 26)) = wr) (fun i _ => nS - (intOf i).toNat)
        case atStart => exact ⟨0, by omega, rfl, Lib.hid (fun i hi => absurd hi (Nat.not_lt_zero _)), rfl⟩
        case round =>
          obtain ⟨j, hj, rfl, HD, rfl⟩ := hrel
          by_cases hlt : j < nS
          · have hji : (j : Int) < nS := by omega
            have hjA : (j : Int) < nA := by have := HAB.out; omega
            have hjB : (j : Int) < nB := by have := HAB.out; omega
            obtain ⟨dS, oS, rfl, hcS⟩ := HR.out.says j hlt
            obtain ⟨⟨dA, oA, rfl, hcA⟩, hIA⟩ := HR.out.first j (by have := HAB.out; omega)
            obtain ⟨⟨dB, oB, rfl, hcB⟩, hIB⟩ := HR.out.second j (by have := HAB.out; omega)
            have HIA := Lib.hid hIA
            have HIB := Lib.hid hIB
            clear hIA hIB
            obtain ⟨A1, hA1⟩ : ∃ x, x = (rA j).1 := ⟨_, rfl⟩
            obtain ⟨nA1, hnA1⟩ : ∃ x, x = (rA j).2.1 := ⟨_, rfl⟩
            obtain ⟨cA1, hcA1⟩ : ∃ x, x = (rA j).2.2 := ⟨_, rfl⟩
            obtain ⟨B1, hB1⟩ : ∃ x, x = (rB j).1 := ⟨_, rfl⟩
            obtain ⟨nB1, hnB1⟩ : ∃ x, x = (rB j).2.1 := ⟨_, rfl⟩
            obtain ⟨cB1, hcB1⟩ : ∃ x, x = (rB j).2.2 := ⟨_, rfl⟩
            rw [← hA1, ← hnA1, ← hcA1] at hcA
            rw [← hB1, ← hnB1, ← hcB1] at hcB
            rw [← hA1, ← hnA1] at HIA
            rw [← hB1, ← hnB1] at HIB
            have HNA := Lib.hid hnA1
            have HNB := Lib.hid hnB1
            clear hA1 hnA1 hcA1 hB1 hnB1 hcB1
            cases hs : inB (s j) 0 1
            · have HF := Lib.hid (HVF.out (fun h => by
                have := (h.2.2.2 j hlt).1
                rw [inB_mk (by omega) (by omega)] at hs
                cases hs))
              have HS := Lib.hid hs
              clear hs
              go_wp2_with fail
              refine (inRange_any _ _ _ _).mono ?_
              rintro e w2 ⟨rfl, rfl⟩
              rw [HS.out]
              go_wp2_with fail
              go_ret
              exact ⟨ret_bool HF.out, HK.out⟩
            · have HSB := Lib.hid (inB_true hs)
              have HS := Lib.hid hs
              clear hs
              by_cases hA2 : nA1 = nS
              · have hA2b : ((nA1 : Int) != (nS : Int)) = false := by simp; omega
                by_cases hB2 : nB1 = nS
                · have hB2b : ((nB1 : Int) != (nS : Int)) = false := by simp; omega
                  have HAB2 := Lib.hid (And.intro hA2 hB2)
                  clear hA2 hB2
                  go_wp2_with fail
                  refine (inRange_any _ _ _ _).mono ?_
                  rintro e w2 ⟨rfl, rfl⟩
                  rw [HS.out]
                  go_wp2_with fail
                  go_loopw [5] (fun i wr => ∃ b : Nat, b ≤ nS ∧ i = .int .i64 b ∧ Hid (∀ q, q < b → (0 ≤ f j q ∧ f j q ≤ (nS : Int) - 1) ∧ (0 ≤ g j q ∧ g j q ≤ (nS : Int) - 1)) ∧ (w.alloc (.cells #[.slice (some ⟨dS, oS, none⟩) nS cS, .slice (some ⟨dA, oA, none⟩) nA cA, .slice (some ⟨dB, oB, none⟩) nB cB] 26)) = wr) (fun i _ => nS - (intOf i).toNat)
                  case atStart => exact ⟨0, by omega, rfl, Lib.hid (fun i hi => absurd hi (Nat.not_lt_zero _)), rfl⟩
                  case round =>
                    obtain ⟨b, hb, rfl, HE, rfl⟩ := hrel
                    by_cases hltb : b < nS
                    · have hbi : (b : Int) < nS := by omega
                      have hbA : (b : Int) < nA1 := by have := HAB2.out; omega
                      have hbB : (b : Int) < nB1 := by have := HAB2.out; omega
                      obtain ⟨d1', o1', rfl, hf⟩ := HIA.out b (by have := HAB2.out; omega)
                      obtain ⟨d2', o2', rfl, hg⟩ := HIB.out b (by have := HAB2.out; omega)
                      have W1 : IntKind.i64.wrap ((nS : Int) - 1) = (nS : Int) - 1 := by rw [IntKind.wrap_i64]; omega
                      cases hf1 : inB (f j b) 0 ((nS : Int) - 1)
                      · have HF := Lib.hid (HVF.out (fun h => by
                          have := ((h.2.2.2 j hlt).2.2.2 b hltb).1
                          rw [inB_mk (by omega) (by omega)] at hf1
                          cases hf1))
                        have HF1 := Lib.hid hf1
                        clear hf1
                        go_wp2_with fail
                        refine (inRange_any _ _ _ _).mono ?_
                        rintro e w2 ⟨rfl, rfl⟩
                        rw [HF1.out]
                        go_wp2_with fail
                        go_ret
                        exact ⟨ret_bool HF.out, HK.out⟩
                      · have HFB := Lib.hid (inB_true hf1)
                        have HF1 := Lib.hid hf1
                        clear hf1
                        cases hg1 : inB (g j b) 0 ((nS : Int) - 1)
                        · have HF := Lib.hid (HVF.out (fun h => by
                            have := ((h.2.2.2 j hlt).2.2.2 b hltb).2
                            rw [inB_mk (by omega) (by omega)] at hg1
                            cases hg1))
                          have HG1 := Lib.hid hg1
                          clear hg1
                          go_wp2_with fail
                          refine (inRange_any _ _ _ _).mono ?_
                          rintro e w2 ⟨rfl, rfl⟩
                          rw [HF1.out]
                          go_wp2_with fail
                          refine (inRange_any _ _ _ _).mono ?_
                          rintro e w2 ⟨rfl, rfl⟩
                          rw [HG1.out]
                          go_wp2_with fail
                          go_ret
                          exact ⟨ret_bool HF.out, HK.out⟩
                        · have HGB := Lib.hid (inB_true hg1)
                          have HG1 := Lib.hid hg1
                          clear hg1
                          go_wp2_with fail
                          refine (inRange_any _ _ _ _).mono ?_
                          rintro e w2 ⟨rfl, rfl⟩
                          rw [HF1.out]
                          go_wp2_with fail
                          refine (inRange_any _ _ _ _).mono ?_
                          rintro e w2 ⟨rfl, rfl⟩
                          rw [HG1.out]
                          go_wp2_with fail
                          go_roundw
                          case rel =>
                            refine ⟨b + 1, by omega, by go_num, Lib.hid (fun q hq => ?_), trivial⟩
                            by_cases e : q = b
                            · rw [e]; exact ⟨HFB.out, HGB.out⟩
                            · exact HE.out q (by omega)
                          case measure => simp [intOf]; omega
                    · obtain rfl : b = nS := by omega
                      have HJ : Hid (∀ a, a < j + 1 → (s a = 0 ∨ s a = 1) ∧ (rA a).2.1 = b ∧ (rB a).2.1 = b ∧ ∀ q, q < b → (0 ≤ f a q ∧ f a q ≤ (b : Int) - 1) ∧ (0 ≤ g a q ∧ g a q ≤ (b : Int) - 1)) := Lib.hid (fun a ha => by
                        by_cases e : a = j
                        · rw [e]
                          refine ⟨by have := HSB.out; omega, by rw [← HNA.out]; exact HAB2.out.1, by rw [← HNB.out]; exact HAB2.out.2, HE.out⟩
                        · exact HD.out a (by omega))
                      go_wp2_with fail
                      go_roundw
                      case rel => exact ⟨j + 1, by omega, by go_num, HJ, trivial⟩
                      case measure => simp [intOf]; omega
                · have hB2b : ((nB1 : Int) != (nS : Int)) = true := by simp; omega
                  have HF := Lib.hid (HVF.out (fun h => hB2 (HNB.out.trans (h.2.2.2 j hlt).2.2.1)))
                  clear hA2 hB2
                  go_wp2_with fail
                  refine (inRange_any _ _ _ _).mono ?_
                  rintro e w2 ⟨rfl, rfl⟩
                  rw [HS.out]
                  go_wp2_with fail
                  go_ret
                  exact ⟨ret_bool HF.out, HK.out⟩
              · have hA2b : ((nA1 : Int) != (nS : Int)) = true := by simp; omega
                have HF := Lib.hid (HVF.out (fun h => hA2 (HNA.out.trans (h.2.2.2 j hlt).2.1)))
                clear hA2
                go_wp2_with fail
                refine (inRange_any _ _ _ _).mono ?_
                rintro e w2 ⟨rfl, rfl⟩
                rw [HS.out]
                go_wp2_with fail
                go_ret
                exact ⟨ret_bool HF.out, HK.out⟩
          · obtain rfl : j = nS := by omega
            have HT := Lib.hid (HVT.out ⟨by omega, HAB.out.1, HAB.out.2, HD.out⟩)
            go_wp2_with fail
            go_ret
            exact ⟨ret_bool HT.out, HK.out⟩
      · have hAb : ((nA : Int) != (nS : Int)) = false := by simp; omega
        have hBb : ((nB : Int) != (nS : Int)) = true := by simp; omega
        have HF := Lib.hid (HVF.out (fun h => hB h.2.2.1))
        clear hA hB
        go_enter Try.func35, Try.ntmps35
        go_wp2_with fail
        refine (inRange_any _ _ _ _).mono ?_
        rintro e w2 ⟨rfl, rfl⟩
        rw [HIN.out]
        go_wp2_with fail
        go_ret
        exact ⟨ret_bool HF.out, HK.out⟩
    · have hAb : ((nA : Int) != (nS : Int)) = true := by simp; omega
      have HF := Lib.hid (HVF.out (fun h => hA h.2.1))
      clear hA
      go_enter Try.func35, Try.ntmps35
      go_wp2_with fail
      refine (inRange_any _ _ _ _).mono ?_
      rintro e w2 ⟨rfl, rfl⟩
      rw [HIN.out]
      go_wp2_with fail
      go_ret
      exact ⟨ret_bool HF.out, HK.out⟩
end Go.Proofs.Ytaejakejnllimaa
