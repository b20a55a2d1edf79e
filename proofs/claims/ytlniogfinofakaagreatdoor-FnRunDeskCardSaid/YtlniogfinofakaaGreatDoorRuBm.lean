/-
  The contracts of answer and RunDesk of the reference. Condition: lines of at most 2^20 bytes.
-/
import Derived.Test.YtlniogfinofakaaGreatDoorRuBk
import Derived.Test.YtlniogfinofakaaGreatDoorRuBd
import Derived.Test.YtlniogfinofakaaGreatDoorRuAq
import Derived.Test.YtlniogfinofakaaGreatDoorRuBa
import Derived.Test.YtlniogfinofakaaGreatDoorRuBl
import Derived.Deep.QuietTactic
import Derived.BigQuiet
import Derived.Deep.RegionLaw
namespace Go.Proofs.YtlniogfinofakaaGreatDoor
set_option maxRecDepth 100000
open Go.RowKit Go.Lib
set_option linter.unusedVariables false
set_option linter.unusedSimpArgs false

theorem lst_eq {p : ByteArray} {l : List UInt8} (h : p.data.toList = l) : p = ⟨l.toArray⟩ := by rw [← h, str_eta']
theorem is_word {p : ByteArray} {l : List UInt8} (h : p.data.toList = l) : (p.toList == l) = true := by rw [toList_data, h, beq_self_eq_true]
theorem no_word {p : ByteArray} {l : List UInt8} (h : p.data.toList ≠ l) : (p.toList == l) = false := by rw [toList_data, beq_eq_false_iff_ne]; exact h
theorem two_pieces {p t : ByteArray} : ∀ (l : List ByteArray), l.map (·.data.toList) = [p.data.toList, t.data.toList] → l = [p, t]
  | [], h => by simp at h
  | [a], h => by simp at h
  | [a, b], h => by
    simp only [List.map_cons, List.map_nil, List.cons.injEq, and_true] at h
    rw [lst_eq h.1, lst_eq h.2, str_eta', str_eta']
  | a :: b :: c :: r, h => by simp at h
def SAns (line : ByteArray) (w : World) (e : Ending) (w' : World) : Prop := e = .returned (.string ⟨(answ line.data.toList).toArray⟩) ∧ Keeps w w'
theorem rulB_some (rA rB : Nat → Option Addr × Nat × Nat) (hA : ∀ i, i < 2 → (rA i).2.1 = 2) (hB : ∀ i, i < 2 → (rB i).2.1 = 2) : rulB 2 (lsI [0, 1]) 2 rA (lsII [[0, 1], [1, 1]]) 2 rB (lsII [[0, 1], [1, 1]]) = true := by
  have hd : ∀ a : Fin 2, (lsI [0, 1] a.val = 0 ∨ lsI [0, 1] a.val = 1) ∧ ∀ b : Fin 2, (0 ≤ lsII [[0, 1], [1, 1]] a.val b.val ∧ lsII [[0, 1], [1, 1]] a.val b.val ≤ ((2 : Nat) : Int) - 1) ∧ (0 ≤ lsII [[0, 1], [1, 1]] a.val b.val ∧ lsII [[0, 1], [1, 1]] a.val b.val ≤ ((2 : Nat) : Int) - 1) := by decide +kernel
  exact rulB_iff.2 ⟨by omega, rfl, rfl, fun a ha => ⟨(hd ⟨a, ha⟩).1, hA a ha, hB a ha, fun b hb => (hd ⟨a, ha⟩).2 ⟨b, hb⟩⟩⟩
theorem rulB_three (rA rB : Nat → Option Addr × Nat × Nat) (hA : ∀ i, i < 4 → (rA i).2.1 = 4) (hB : ∀ i, i < 4 → (rB i).2.1 = 4) : rulB 4 (lsI [0, 0, 0, 1]) 4 rA (lsII [[0, 1, 2, 3], [1, 2, 3, 3], [2, 3, 3, 3], [3, 3, 3, 3]]) 4 rB (lsII [[0, 0, 0, 3], [0, 0, 3, 3], [0, 3, 3, 3], [3, 3, 3, 3]]) = true := by
  have hd : ∀ a : Fin 4, (lsI [0, 0, 0, 1] a.val = 0 ∨ lsI [0, 0, 0, 1] a.val = 1) ∧ ∀ b : Fin 4, (0 ≤ lsII [[0, 1, 2, 3], [1, 2, 3, 3], [2, 3, 3, 3], [3, 3, 3, 3]] a.val b.val ∧ lsII [[0, 1, 2, 3], [1, 2, 3, 3], [2, 3, 3, 3], [3, 3, 3, 3]] a.val b.val ≤ ((4 : Nat) : Int) - 1) ∧ (0 ≤ lsII [[0, 0, 0, 3], [0, 0, 3, 3], [0, 3, 3, 3], [3, 3, 3, 3]] a.val b.val ∧ lsII [[0, 0, 0, 3], [0, 0, 3, 3], [0, 3, 3, 3], [3, 3, 3, 3]] a.val b.val ≤ ((4 : Nat) : Int) - 1) := by decide +kernel
  exact rulB_iff.2 ⟨by omega, rfl, rfl, fun a ha => ⟨(hd ⟨a, ha⟩).1, hA a ha, hB a ha, fun b hb => (hd ⟨a, ha⟩).2 ⟨b, hb⟩⟩⟩
theorem rulB_most (rA rB : Nat → Option Addr × Nat × Nat) (hA : ∀ i, i < 4 → (rA i).2.1 = 4) (hB : ∀ i, i < 4 → (rB i).2.1 = 4) : rulB 4 (lsI [0, 1, 0, 1]) 4 rA (lsII [[0, 2, 0, 0], [2, 1, 1, 1], [2, 3, 2, 2], [2, 3, 2, 3]]) 4 rB (lsII [[0, 2, 2, 2], [2, 1, 3, 3], [0, 1, 2, 2], [0, 1, 2, 3]]) = true := by
  have hd : ∀ a : Fin 4, (lsI [0, 1, 0, 1] a.val = 0 ∨ lsI [0, 1, 0, 1] a.val = 1) ∧ ∀ b : Fin 4, (0 ≤ lsII [[0, 2, 0, 0], [2, 1, 1, 1], [2, 3, 2, 2], [2, 3, 2, 3]] a.val b.val ∧ lsII [[0, 2, 0, 0], [2, 1, 1, 1], [2, 3, 2, 2], [2, 3, 2, 3]] a.val b.val ≤ ((4 : Nat) : Int) - 1) ∧ (0 ≤ lsII [[0, 2, 2, 2], [2, 1, 3, 3], [0, 1, 2, 2], [0, 1, 2, 3]] a.val b.val ∧ lsII [[0, 2, 2, 2], [2, 1, 3, 3], [0, 1, 2, 2], [0, 1, 2, 3]] a.val b.val ≤ ((4 : Nat) : Int) - 1) := by decide +kernel
  exact rulB_iff.2 ⟨by omega, rfl, rfl, fun a ha => ⟨(hd ⟨a, ha⟩).1, hA a ha, hB a ha, fun b hb => (hd ⟨a, ha⟩).2 ⟨b, hb⟩⟩⟩
theorem rulB_odd (rA rB : Nat → Option Addr × Nat × Nat) (hA : ∀ i, i < 4 → (rA i).2.1 = 4) (hB : ∀ i, i < 4 → (rB i).2.1 = 4) : rulB 4 (lsI [0, 1, 0, 1]) 4 rA (lsII [[0, 1, 0, 0], [1, 0, 1, 1], [2, 3, 2, 2], [2, 3, 3, 3]]) 4 rB (lsII [[2, 3, 2, 2], [3, 2, 3, 3], [0, 1, 2, 3], [0, 1, 2, 3]]) = true := by
  have hd : ∀ a : Fin 4, (lsI [0, 1, 0, 1] a.val = 0 ∨ lsI [0, 1, 0, 1] a.val = 1) ∧ ∀ b : Fin 4, (0 ≤ lsII [[0, 1, 0, 0], [1, 0, 1, 1], [2, 3, 2, 2], [2, 3, 3, 3]] a.val b.val ∧ lsII [[0, 1, 0, 0], [1, 0, 1, 1], [2, 3, 2, 2], [2, 3, 3, 3]] a.val b.val ≤ ((4 : Nat) : Int) - 1) ∧ (0 ≤ lsII [[2, 3, 2, 2], [3, 2, 3, 3], [0, 1, 2, 3], [0, 1, 2, 3]] a.val b.val ∧ lsII [[2, 3, 2, 2], [3, 2, 3, 3], [0, 1, 2, 3], [0, 1, 2, 3]] a.val b.val ≤ ((4 : Nat) : Int) - 1) := by decide +kernel
  exact rulB_iff.2 ⟨by omega, rfl, rfl, fun a ha => ⟨(hd ⟨a, ha⟩).1, hA a ha, hB a ha, fun b hb => (hd ⟨a, ha⟩).2 ⟨b, hb⟩⟩⟩
/-- The numbers of a text, as the reference reads them. -/
def rdL (t : ByteArray) : List Int := (splitA 44 [] t.data.toList).map rd1
theorem answ_known {s p t : ByteArray} {A : Option (List UInt8)} (h : splitA 32 [] s.data.toList = [p.data.toList, t.data.toList]) (hk : knownB p.data.toList = true) (ha : answF p.data.toList (rdL t) = A) : answ s.data.toList = A.getD w_wrong := by
  unfold answ
  rw [h]
  simp only
  rw [if_pos hk, ← ha]
  rfl
theorem getD_range (l : List Nat) : (List.range l.length).map (fun i => decDigits (l.getD i 0)) = l.map decDigits := by
  apply List.ext_getElem
  · simp
  · intro i h1 h2
    simp at h1
    simp [List.getD_eq_getElem?_getD, List.getElem?_eq_getElem h1]
theorem nums_comma (l : List Nat) : numsT (fun i => l.getD i 0) l.length = commaT l := by
  rw [numsT_eq]
  unfold commaT
  rw [getD_range]
theorem answF_elect (L : List Int) : answF w_elect L = (if mkB L then some (electT L) else none) := by
  unfold answF
  rw [if_pos rfl]
theorem answF_tokens (L : List Int) : answF w_tokens L = (if tokOkB 5 L.length (fun i => L.getD i 0) then some (tokT L) else none) := by
  unfold answF
  rw [if_neg (by decide)]
  rw [if_pos rfl]
theorem answF_muddy (L : List Int) : answF w_muddy L = (if mudB L then some (mudT L) else none) := by
  unfold answF
  rw [if_neg (by decide)]
  rw [if_neg (by decide)]
  rw [if_pos rfl]
theorem answF_some (L : List Int) : answF w_some L = (if crwB 2 L then some (crwT [[0, 1], [1, 1]] [[0, 1], [1, 1]] 2 [0, 1] L) else none) := by
  unfold answF
  rw [if_neg (by decide)]
  rw [if_neg (by decide)]
  rw [if_neg (by decide)]
  rw [if_pos rfl]
theorem answF_three (L : List Int) : answF w_three L = (if crwB 4 L then some (crwT [[0, 1, 2, 3], [1, 2, 3, 3], [2, 3, 3, 3], [3, 3, 3, 3]] [[0, 0, 0, 3], [0, 0, 3, 3], [0, 3, 3, 3], [3, 3, 3, 3]] 4 [0, 0, 0, 1] L) else none) := by
  unfold answF
  rw [if_neg (by decide)]
  rw [if_neg (by decide)]
  rw [if_neg (by decide)]
  rw [if_neg (by decide)]
  rw [if_pos rfl]
theorem answF_most (L : List Int) : answF w_most L = (if crwB 4 L then some (crwT [[0, 2, 0, 0], [2, 1, 1, 1], [2, 3, 2, 2], [2, 3, 2, 3]] [[0, 2, 2, 2], [2, 1, 3, 3], [0, 1, 2, 2], [0, 1, 2, 3]] 4 [0, 1, 0, 1] L) else none) := by
  unfold answF
  rw [if_neg (by decide)]
  rw [if_neg (by decide)]
  rw [if_neg (by decide)]
  rw [if_neg (by decide)]
  rw [if_neg (by decide)]
  rw [if_pos rfl]
theorem answF_odd (L : List Int) : answF w_odd L = (if crwB 4 L then some (crwT [[0, 1, 0, 0], [1, 0, 1, 1], [2, 3, 2, 2], [2, 3, 3, 3]] [[2, 3, 2, 2], [3, 2, 3, 3], [0, 1, 2, 3], [0, 1, 2, 3]] 4 [0, 1, 0, 1] L) else none) := by
  unfold answF
  rw [if_neg (by decide)]
  rw [if_neg (by decide)]
  rw [if_neg (by decide)]
  rw [if_neg (by decide)]
  rw [if_neg (by decide)]
  rw [if_neg (by decide)]
  rw [if_pos rfl]
theorem readL_le (t : ByteArray) : (rdL t).length ≤ t.size + 1 := by
  unfold rdL
  rw [List.length_map]
  have h := splitA_len 44 t.data.toList []
  have e : t.data.toList.length = t.size := by simp
  omega
set_option maxHeartbeats 4000000 in
theorem sAnswer_elect (s p t : ByteArray) (w : World) (hs : s.size ≤ 1099511627775) (ht : t.size ≤ s.size) (hP : splitA 32 [] s.data.toList = [p.data.toList, t.data.toList]) (hw : p.data.toList = w_elect) :
    Calls Tryz.prog 12 #[.string s] w (SAns s w) := by
  have HP := Lib.hid hP
  have HW := Lib.hid hw
  have h_elect : (p.toList == [101, 108, 101, 99, 116]) = true := is_word hw
  have HA := Lib.hid (answ_known (A := answF w_elect (rdL t)) hP (by rw [hw]; decide) (by rw [hw]))
  clear hw hP
  go_enter Tryz.func12, Tryz.ntmps12
  go_wp2_with fail
  refine (splitAt_any s 32 _ hs).mono ?_
  rintro e w1 ⟨gS, cS, l, rfl, hO, hl, hk1⟩
  obtain rfl := two_pieces l (hl.trans HP.out)
  obtain ⟨_, _, e, c0⟩ := hO.strs 0 (by simp)
  cases e
  obtain ⟨_, _, e, c1⟩ := hO.strs 1 (by simp)
  cases e
  dsimp only at c0 c1
  have hlen : ([p, t] : List ByteArray).length = 2 := rfl
  clear hl hO
  go_wp2_with fail
  refine (readList_any t _ (by omega)).mono ?_
  rintro e w2 ⟨g2, m, c2, rfl, hO2, hk2⟩
  have HI : Hid (Ints w2 (some ⟨g2, 0, none⟩) m (fun i => (rdL t).getD i 0)) := Lib.hid hO2.ints
  have HK := Lib.hid (hk1.step hk2)
  have hml : (rdL t).length = m := hO2.len
  have hm := readL_le t
  rw [hml] at hm
  have hc0 := cell_keeps hk2 c0
  clear hO2 hk1 hk2 c0 c1 hlen
  go_wp2_with fail
  have CV := Lib.hid (svalidMarks_any (some ⟨g2, 0, none⟩) m c2 (fun i => (rdL t).getD i 0) w2 (by omega) HI.out)
  have hmk : marksX m (fun i => (rdL t).getD i 0) = mkB (rdL t) := by rw [← hml]; rfl
  have HA2 := Lib.hid (HA.out.trans (by rw [answF_elect]))
  cases hb : mkB (rdL t)
  · rw [hmk, hb] at CV
    rw [hb] at HA2
    clear hb hmk HA
    refine CV.out.mono ?_
    rintro e w3 ⟨rfl, hk3⟩
    go_wp2_with fail
    go_ret
    exact ⟨by rw [HA2.out]; rfl, HK.out.step hk3⟩
  · have CE := Lib.hid (fun w' (k : Keeps w2 w') => sElectOf_yes (some ⟨g2, 0, none⟩) m c2 (fun i => (rdL t).getD i 0) w' (HI.out.keeps k) (by rw [hmk, hb]))
    have hlen6 := marks_n (hmk.trans hb)
    have hA1 := atE_le (fun i => (rdL t).getD i 0) (m - 1)
    have hA2 := sumE_bd (x := fun i => (rdL t).getD i 0) hlen6.2 (Nat.le_refl m)
    have HE : Hid (electT (rdL t) = decDigits (atE (fun i => (rdL t).getD i 0) (m - 1)) ++ (32 :: decDigits (sumE (fun i => (rdL t).getD i 0) m m))) := Lib.hid (by rw [← hml]; rfl)
    rw [hmk, hb] at CV
    rw [hb] at HA2
    clear hb hmk HA
    generalize atE (fun i => (rdL t).getD i 0) (m - 1) = x1 at *
    generalize sumE (fun i => (rdL t).getD i 0) m m = x2 at *
    have C1 := Lib.hid (fun w => number_any _ x1 w (Nat.le_refl _) (by omega))
    have C2 := Lib.hid (fun w => number_any _ x2 w (Nat.le_refl _) (by omega))
    obtain ⟨Y1, hY1⟩ : ∃ Y : ByteArray, Y = ⟨(decDigits x1).toArray⟩ := ⟨_, rfl⟩
    obtain ⟨Y2, hY2⟩ : ∃ Y : ByteArray, Y = ⟨(decDigits x2).toArray⟩ := ⟨_, rfl⟩
    rw [← hY1] at C1
    rw [← hY2] at C2
    have hY1s : Y1.size ≤ 20 := by rw [hY1]; show (decDigits x1).length ≤ 20; rw [decDigits_length]; exact nDigits_le20 _ (by omega)
    have hY2s : Y2.size ≤ 20 := by rw [hY2]; show (decDigits x2).length ≤ 20; rw [decDigits_length]; exact nDigits_le20 _ (by omega)
    have H1 := Lib.hid hY1
    have H2 := Lib.hid hY2
    clear hY1 hY2
    refine CV.out.mono ?_
    rintro e w3 ⟨rfl, hk3⟩
    have CE3 := Lib.hid (CE.out w3 hk3)
    go_wp2_with fail
    refine CE3.out.mono ?_
    rintro e w4 ⟨rfl, hk4⟩
    have HK4 := Lib.hid ((HK.out.step hk3).step hk4)
    clear hk3 hk4
    go_wp2_with fail
    refine (C1.out _).mono ?_
    rintro e w5 ⟨rfl, rfl⟩
    go_wp2_with fail
    refine (C2.out _).mono ?_
    rintro e w5 ⟨rfl, rfl⟩
    go_wp2_with fail
    go_ret
    refine ⟨?_, HK4.out⟩
    rw [HA2.out, if_pos trivial]
    show _ = Ending.returned (Value.string ⟨(electT (rdL t)).toArray⟩)
    rw [HE.out, show (32 :: decDigits x2) = [32] ++ decDigits x2 from rfl, ← List.append_assoc, ← str_add, ← str_add, ← H1.out, ← H2.out]
    rfl
set_option maxHeartbeats 4000000 in
theorem sAnswer_tokens (s p t : ByteArray) (w : World) (hs : s.size ≤ 1099511627775) (ht : t.size ≤ s.size) (hP : splitA 32 [] s.data.toList = [p.data.toList, t.data.toList]) (hw : p.data.toList = w_tokens) :
    Calls Tryz.prog 12 #[.string s] w (SAns s w) := by
  have HP := Lib.hid hP
  have HW := Lib.hid hw
  have h_elect : (p.toList == [101, 108, 101, 99, 116]) = false := no_word (by rw [hw]; decide)
  have h_tokens : (p.toList == [116, 111, 107, 101, 110, 115]) = true := is_word hw
  have HA := Lib.hid (answ_known (A := answF w_tokens (rdL t)) hP (by rw [hw]; decide) (by rw [hw]))
  clear hw hP
  go_enter Tryz.func12, Tryz.ntmps12
  go_wp2_with fail
  refine (splitAt_any s 32 _ hs).mono ?_
  rintro e w1 ⟨gS, cS, l, rfl, hO, hl, hk1⟩
  obtain rfl := two_pieces l (hl.trans HP.out)
  obtain ⟨_, _, e, c0⟩ := hO.strs 0 (by simp)
  cases e
  obtain ⟨_, _, e, c1⟩ := hO.strs 1 (by simp)
  cases e
  dsimp only at c0 c1
  have hlen : ([p, t] : List ByteArray).length = 2 := rfl
  clear hl hO
  go_wp2_with fail
  refine (readList_any t _ (by omega)).mono ?_
  rintro e w2 ⟨g2, m, c2, rfl, hO2, hk2⟩
  have HI : Hid (Ints w2 (some ⟨g2, 0, none⟩) m (fun i => (rdL t).getD i 0)) := Lib.hid hO2.ints
  have HK := Lib.hid (hk1.step hk2)
  have hml : (rdL t).length = m := hO2.len
  have hm := readL_le t
  rw [hml] at hm
  have hc0 := cell_keeps hk2 c0
  clear hO2 hk1 hk2 c0 c1 hlen
  go_wp2_with fail
  have CV := Lib.hid (svalidTokens_any 5 (some ⟨g2, 0, none⟩) m c2 (fun i => (rdL t).getD i 0) w2 (by omega) HI.out)
  have hmk : tokOkB 5 m (fun i => (rdL t).getD i 0) = tokOkB 5 (rdL t).length (fun i => (rdL t).getD i 0) := by rw [hml]
  have HA2 := Lib.hid (HA.out.trans (by rw [answF_tokens]))
  cases hb : tokOkB 5 (rdL t).length (fun i => (rdL t).getD i 0)
  · rw [hmk, hb] at CV
    rw [hb] at HA2
    clear hb hmk HA
    refine CV.out.mono ?_
    rintro e w3 ⟨rfl, rfl⟩
    go_wp2_with fail
    go_ret
    exact ⟨by rw [HA2.out]; rfl, HK.out⟩
  · obtain ⟨kk, hkk, hT, hx⟩ := tokOk_true (hmk.trans hb)
    have hn2 := hT.n2
    have hn5 := hT.n5
    have CE := Lib.hid (stokens_any (some ⟨g2, 0, none⟩) m c2 (fun j => ((rdL t).getD j 0).toNat) w2 hn2 hn5 (fun j hj => by
      obtain ⟨d, off, e, hc⟩ := HI.out j hj
      refine ⟨d, off, e, ?_⟩
      rw [← hx j hj]
      exact hc))
    have HE : Hid (tokT (rdL t) = commaT (tks m (fun j => ((rdL t).getD j 0).toNat) m)) := Lib.hid (by unfold tokT; rw [hml]; rfl)
    have HTB := Lib.hid (tks_bd (n := m) (s := fun j => ((rdL t).getD j 0).toNat) m)
    have HTA := Lib.hid (fun i hi => (tks_at m (fun j => ((rdL t).getD j 0).toNat) i hi).1)
    rw [hmk, hb] at CV
    rw [hb] at HA2
    clear hb hmk HA hT hx hkk
    refine CV.out.mono ?_
    rintro e w3 ⟨rfl, rfl⟩
    go_wp2_with fail
    refine CE.out.mono ?_
    rintro e w4 ⟨g4, c4, rfl, hI4, hc4, hc5, hg4, hk4⟩
    obtain ⟨q, hq⟩ : ∃ q, q = tks m (fun j => ((rdL t).getD j 0).toNat) m := ⟨_, rfl⟩
    rw [← hq] at HE HTB HTA hI4 hc4 ⊢
    clear hq
    have CL := Lib.hid (listText_any (some ⟨g4, 0, none⟩) q.length c4 (fun i => q.getD i 0) w4 (by have := HTB.out; omega) (fun i hi => by have := HTA.out i hi; omega) hI4)
    rw [nums_comma] at CL
    have HK4 := Lib.hid (HK.out.step hk4)
    clear hI4 hk4
    go_wp2_with fail
    refine CL.out.mono ?_
    rintro e w5 ⟨rfl, rfl⟩
    go_wp2_with fail
    go_ret
    refine ⟨?_, HK4.out⟩
    rw [HA2.out, if_pos trivial]
    show _ = Ending.returned (Value.string ⟨(tokT (rdL t)).toArray⟩)
    rw [HE.out]
    rfl
set_option maxHeartbeats 4000000 in
theorem sAnswer_some (s p t : ByteArray) (w : World) (hs : s.size ≤ 1099511627775) (ht : t.size ≤ s.size) (hP : splitA 32 [] s.data.toList = [p.data.toList, t.data.toList]) (hw : p.data.toList = w_some) :
    Calls Tryz.prog 12 #[.string s] w (SAns s w) := by
  have HP := Lib.hid hP
  have HW := Lib.hid hw
  have h_elect : (p.toList == [101, 108, 101, 99, 116]) = false := no_word (by rw [hw]; decide)
  have h_tokens : (p.toList == [116, 111, 107, 101, 110, 115]) = false := no_word (by rw [hw]; decide)
  have h_some : (p.toList == [115, 111, 109, 101]) = true := is_word hw
  have HA := Lib.hid (answ_known (A := answF w_some (rdL t)) hP (by rw [hw]; decide) (by rw [hw]))
  clear hw hP
  go_enter Tryz.func12, Tryz.ntmps12
  go_wp2_with fail
  refine (splitAt_any s 32 _ hs).mono ?_
  rintro e w1 ⟨gS, cS, l, rfl, hO, hl, hk1⟩
  obtain rfl := two_pieces l (hl.trans HP.out)
  obtain ⟨_, _, e, c0⟩ := hO.strs 0 (by simp)
  cases e
  obtain ⟨_, _, e, c1⟩ := hO.strs 1 (by simp)
  cases e
  dsimp only at c0 c1
  have hlen : ([p, t] : List ByteArray).length = 2 := rfl
  clear hl hO
  go_wp2_with fail
  refine (readList_any t _ (by omega)).mono ?_
  rintro e w2 ⟨g2, m, c2, rfl, hO2, hk2⟩
  have HI : Hid (Ints w2 (some ⟨g2, 0, none⟩) m (fun i => (rdL t).getD i 0)) := Lib.hid hO2.ints
  have HK := Lib.hid (hk1.step hk2)
  have hml : (rdL t).length = m := hO2.len
  have hm := readL_le t
  rw [hml] at hm
  have hc0 := cell_keeps hk2 c0
  clear hO2 hk1 hk2 c0 c1 hlen
  go_wp2_with fail
  have HA2 := Lib.hid (HA.out.trans (by rw [answF_some]))
  have hpe : p = ⟨#[115, 111, 109, 101]⟩ := lst_eq HW.out
  have CR := Lib.hid (rulesOf_some w2)
  rw [← hpe] at CR
  clear hpe HA
  refine CR.out.mono ?_
  rintro e w3 ⟨S, A, B, rA, rB, rfl, hRul, ⟨hrA, hrB⟩, hk3⟩
  have HR := Lib.hid (hRul w3 (fun _ _ _ => rfl))
  have HRB : Hid (rulB 2 (lsI [0, 1]) 2 rA (lsII [[0, 1], [1, 1]]) 2 rB (lsII [[0, 1], [1, 1]]) = true) := Lib.hid (rulB_some rA rB hrA hrB)
  have HI3 := Lib.hid (HI.out.keeps hk3)
  have HK3 := Lib.hid (HK.out.step hk3)
  clear hRul hrA hrB hk3 hc0 CR
  go_wp2_with fail
  have HB := Lib.hid (Blk.new w3 #[.slice S 2 2, .slice A 2 2, .slice B 2 2] 54)
  have HK4 := Lib.hid (HK3.out.step (Keeps.alloc w3 (.cells #[.slice S 2 2, .slice A 2 2, .slice B 2 2] 54)))
  have HI4 := Lib.hid (HI3.out.keeps (Keeps.alloc w3 (.cells #[.slice S 2 2, .slice A 2 2, .slice B 2 2] 54)))
  have HR4 := Lib.hid (HR.out.keeps (Keeps.alloc w3 (.cells #[.slice S 2 2, .slice A 2 2, .slice B 2 2] 54)))
  obtain ⟨b, hbb⟩ : ∃ b, b = w3.heap.size := ⟨_, rfl⟩
  rw [← hbb] at HB ⊢
  clear hbb
  generalize w3.alloc (.cells #[.slice S 2 2, .slice A 2 2, .slice B 2 2] 54) = w4 at *
  subst hml
  have CV := Lib.hid (validCrowd_any S A B (some ⟨g2, 0, none⟩) 2 2 2 2 2 2 c2 (rdL t) w4 (by omega) HI4.out (by omega))
  cases hb : crwB 2 (rdL t)
  · rw [hb] at CV HA2
    clear hb
    refine CV.out.mono ?_
    rintro e w5 ⟨rfl, hk5⟩
    go_wp2_with fail
    go_ret
    exact ⟨by rw [HA2.out]; rfl, HK4.out.step hk5⟩
  · have CX := Lib.hid (fun w' (k : Keeps w4 w') => sVerdictOf_any S A B (some ⟨g2, 0, none⟩) 2 2 2 2 2 2 c2 (lsI [0, 1]) rA rB (lsII [[0, 1], [1, 1]]) (lsII [[0, 1], [1, 1]]) (rdL t) w' (HR4.out.keeps k) (HI4.out.keeps k) (by omega))
    rw [HRB.out, hb] at CX
    rw [hb] at CV HA2
    clear hb
    have HVC := Lib.hid (verd_cases (natF (lsII [[0, 1], [1, 1]])) (natF (lsII [[0, 1], [1, 1]])) 2 (lsI [0, 1]) (rdL t))
    have HCT : Hid (crwT [[0, 1], [1, 1]] [[0, 1], [1, 1]] 2 [0, 1] (rdL t) = if verd (natF (lsII [[0, 1], [1, 1]])) (natF (lsII [[0, 1], [1, 1]])) 2 (lsI [0, 1]) (rdL t) < 0 then w_open else decDigits (verd (natF (lsII [[0, 1], [1, 1]])) (natF (lsII [[0, 1], [1, 1]])) 2 (lsI [0, 1]) (rdL t)).toNat) := Lib.hid rfl
    generalize verd (natF (lsII [[0, 1], [1, 1]])) (natF (lsII [[0, 1], [1, 1]])) 2 (lsI [0, 1]) (rdL t) = V at *
    refine CV.out.mono ?_
    rintro e w5 ⟨rfl, hk5⟩
    have hB5 := HB.out.keeps hk5
    have e0 : w5.cell? ⟨b, 0, none⟩ = some (.slice S 2 2) := hB5.cell 0
    have e1 : w5.cell? ⟨b, 1, none⟩ = some (.slice A 2 2) := hB5.cell 1
    have e2 : w5.cell? ⟨b, 2, none⟩ = some (.slice B 2 2) := hB5.cell 2
    have CX5 := Lib.hid (CX.out w5 hk5)
    have HK5 := Lib.hid (HK4.out.step hk5)
    clear hk5 hB5
    go_wp2_with fail
    refine CX5.out.mono ?_
    rintro e w6 ⟨rfl, hk6⟩
    have HK6 := Lib.hid (HK5.out.step hk6)
    clear hk6 e0 e1 e2
    have HAF := Lib.hid (HA2.out.trans (by rw [if_pos trivial]))
    by_cases hneg : V < 0
    · have HCT2 := Lib.hid (HCT.out.trans (if_pos hneg))
      go_wp2_with fail
      go_ret
      exact ⟨by rw [HAF.out]; show _ = Ending.returned (Value.string ⟨(crwT _ _ _ _ _).toArray⟩); rw [HCT2.out]; rfl, HK6.out⟩
    · have HCT2 := Lib.hid (HCT.out.trans (if_neg hneg))
      obtain ⟨v, rfl⟩ : ∃ v : Nat, V = (v : Int) := ⟨V.toNat, by omega⟩
      have hv : v ≤ 1 := by have := HVC.out; omega
      have C1 := Lib.hid (fun w => number_any _ v w (Nat.le_refl _) (by omega))
      rw [show ((v : Int)).toNat = v by omega] at HCT2
      go_wp2_with fail
      refine (C1.out _).mono ?_
      rintro e w7 ⟨rfl, rfl⟩
      go_wp2_with fail
      go_ret
      exact ⟨by rw [HAF.out]; show _ = Ending.returned (Value.string ⟨(crwT _ _ _ _ _).toArray⟩); rw [HCT2.out]; rfl, HK6.out⟩
set_option maxHeartbeats 4000000 in
theorem sAnswer_three (s p t : ByteArray) (w : World) (hs : s.size ≤ 1099511627775) (ht : t.size ≤ s.size) (hP : splitA 32 [] s.data.toList = [p.data.toList, t.data.toList]) (hw : p.data.toList = w_three) :
    Calls Tryz.prog 12 #[.string s] w (SAns s w) := by
  have HP := Lib.hid hP
  have HW := Lib.hid hw
  have h_elect : (p.toList == [101, 108, 101, 99, 116]) = false := no_word (by rw [hw]; decide)
  have h_tokens : (p.toList == [116, 111, 107, 101, 110, 115]) = false := no_word (by rw [hw]; decide)
  have h_some : (p.toList == [115, 111, 109, 101]) = false := no_word (by rw [hw]; decide)
  have h_three : (p.toList == [116, 104, 114, 101, 101]) = true := is_word hw
  have HA := Lib.hid (answ_known (A := answF w_three (rdL t)) hP (by rw [hw]; decide) (by rw [hw]))
  clear hw hP
  go_enter Tryz.func12, Tryz.ntmps12
  go_wp2_with fail
  refine (splitAt_any s 32 _ hs).mono ?_
  rintro e w1 ⟨gS, cS, l, rfl, hO, hl, hk1⟩
  obtain rfl := two_pieces l (hl.trans HP.out)
  obtain ⟨_, _, e, c0⟩ := hO.strs 0 (by simp)
  cases e
  obtain ⟨_, _, e, c1⟩ := hO.strs 1 (by simp)
  cases e
  dsimp only at c0 c1
  have hlen : ([p, t] : List ByteArray).length = 2 := rfl
  clear hl hO
  go_wp2_with fail
  refine (readList_any t _ (by omega)).mono ?_
  rintro e w2 ⟨g2, m, c2, rfl, hO2, hk2⟩
  have HI : Hid (Ints w2 (some ⟨g2, 0, none⟩) m (fun i => (rdL t).getD i 0)) := Lib.hid hO2.ints
  have HK := Lib.hid (hk1.step hk2)
  have hml : (rdL t).length = m := hO2.len
  have hm := readL_le t
  rw [hml] at hm
  have hc0 := cell_keeps hk2 c0
  clear hO2 hk1 hk2 c0 c1 hlen
  go_wp2_with fail
  have HA2 := Lib.hid (HA.out.trans (by rw [answF_three]))
  have hpe : p = ⟨#[116, 104, 114, 101, 101]⟩ := lst_eq HW.out
  have CR := Lib.hid (rulesOf_three w2)
  rw [← hpe] at CR
  clear hpe HA
  refine CR.out.mono ?_
  rintro e w3 ⟨S, A, B, rA, rB, rfl, hRul, ⟨hrA, hrB⟩, hk3⟩
  have HR := Lib.hid (hRul w3 (fun _ _ _ => rfl))
  have HRB : Hid (rulB 4 (lsI [0, 0, 0, 1]) 4 rA (lsII [[0, 1, 2, 3], [1, 2, 3, 3], [2, 3, 3, 3], [3, 3, 3, 3]]) 4 rB (lsII [[0, 0, 0, 3], [0, 0, 3, 3], [0, 3, 3, 3], [3, 3, 3, 3]]) = true) := Lib.hid (rulB_three rA rB hrA hrB)
  have HI3 := Lib.hid (HI.out.keeps hk3)
  have HK3 := Lib.hid (HK.out.step hk3)
  clear hRul hrA hrB hk3 hc0 CR
  go_wp2_with fail
  have HB := Lib.hid (Blk.new w3 #[.slice S 4 4, .slice A 4 4, .slice B 4 4] 54)
  have HK4 := Lib.hid (HK3.out.step (Keeps.alloc w3 (.cells #[.slice S 4 4, .slice A 4 4, .slice B 4 4] 54)))
  have HI4 := Lib.hid (HI3.out.keeps (Keeps.alloc w3 (.cells #[.slice S 4 4, .slice A 4 4, .slice B 4 4] 54)))
  have HR4 := Lib.hid (HR.out.keeps (Keeps.alloc w3 (.cells #[.slice S 4 4, .slice A 4 4, .slice B 4 4] 54)))
  obtain ⟨b, hbb⟩ : ∃ b, b = w3.heap.size := ⟨_, rfl⟩
  rw [← hbb] at HB ⊢
  clear hbb
  generalize w3.alloc (.cells #[.slice S 4 4, .slice A 4 4, .slice B 4 4] 54) = w4 at *
  subst hml
  have CV := Lib.hid (validCrowd_any S A B (some ⟨g2, 0, none⟩) 4 4 4 4 4 4 c2 (rdL t) w4 (by omega) HI4.out (by omega))
  cases hb : crwB 4 (rdL t)
  · rw [hb] at CV HA2
    clear hb
    refine CV.out.mono ?_
    rintro e w5 ⟨rfl, hk5⟩
    go_wp2_with fail
    go_ret
    exact ⟨by rw [HA2.out]; rfl, HK4.out.step hk5⟩
  · have CX := Lib.hid (fun w' (k : Keeps w4 w') => sVerdictOf_any S A B (some ⟨g2, 0, none⟩) 4 4 4 4 4 4 c2 (lsI [0, 0, 0, 1]) rA rB (lsII [[0, 1, 2, 3], [1, 2, 3, 3], [2, 3, 3, 3], [3, 3, 3, 3]]) (lsII [[0, 0, 0, 3], [0, 0, 3, 3], [0, 3, 3, 3], [3, 3, 3, 3]]) (rdL t) w' (HR4.out.keeps k) (HI4.out.keeps k) (by omega))
    rw [HRB.out, hb] at CX
    rw [hb] at CV HA2
    clear hb
    have HVC := Lib.hid (verd_cases (natF (lsII [[0, 1, 2, 3], [1, 2, 3, 3], [2, 3, 3, 3], [3, 3, 3, 3]])) (natF (lsII [[0, 0, 0, 3], [0, 0, 3, 3], [0, 3, 3, 3], [3, 3, 3, 3]])) 4 (lsI [0, 0, 0, 1]) (rdL t))
    have HCT : Hid (crwT [[0, 1, 2, 3], [1, 2, 3, 3], [2, 3, 3, 3], [3, 3, 3, 3]] [[0, 0, 0, 3], [0, 0, 3, 3], [0, 3, 3, 3], [3, 3, 3, 3]] 4 [0, 0, 0, 1] (rdL t) = if verd (natF (lsII [[0, 1, 2, 3], [1, 2, 3, 3], [2, 3, 3, 3], [3, 3, 3, 3]])) (natF (lsII [[0, 0, 0, 3], [0, 0, 3, 3], [0, 3, 3, 3], [3, 3, 3, 3]])) 4 (lsI [0, 0, 0, 1]) (rdL t) < 0 then w_open else decDigits (verd (natF (lsII [[0, 1, 2, 3], [1, 2, 3, 3], [2, 3, 3, 3], [3, 3, 3, 3]])) (natF (lsII [[0, 0, 0, 3], [0, 0, 3, 3], [0, 3, 3, 3], [3, 3, 3, 3]])) 4 (lsI [0, 0, 0, 1]) (rdL t)).toNat) := Lib.hid rfl
    generalize verd (natF (lsII [[0, 1, 2, 3], [1, 2, 3, 3], [2, 3, 3, 3], [3, 3, 3, 3]])) (natF (lsII [[0, 0, 0, 3], [0, 0, 3, 3], [0, 3, 3, 3], [3, 3, 3, 3]])) 4 (lsI [0, 0, 0, 1]) (rdL t) = V at *
    refine CV.out.mono ?_
    rintro e w5 ⟨rfl, hk5⟩
    have hB5 := HB.out.keeps hk5
    have e0 : w5.cell? ⟨b, 0, none⟩ = some (.slice S 4 4) := hB5.cell 0
    have e1 : w5.cell? ⟨b, 1, none⟩ = some (.slice A 4 4) := hB5.cell 1
    have e2 : w5.cell? ⟨b, 2, none⟩ = some (.slice B 4 4) := hB5.cell 2
    have CX5 := Lib.hid (CX.out w5 hk5)
    have HK5 := Lib.hid (HK4.out.step hk5)
    clear hk5 hB5
    go_wp2_with fail
    refine CX5.out.mono ?_
    rintro e w6 ⟨rfl, hk6⟩
    have HK6 := Lib.hid (HK5.out.step hk6)
    clear hk6 e0 e1 e2
    have HAF := Lib.hid (HA2.out.trans (by rw [if_pos trivial]))
    by_cases hneg : V < 0
    · have HCT2 := Lib.hid (HCT.out.trans (if_pos hneg))
      go_wp2_with fail
      go_ret
      exact ⟨by rw [HAF.out]; show _ = Ending.returned (Value.string ⟨(crwT _ _ _ _ _).toArray⟩); rw [HCT2.out]; rfl, HK6.out⟩
    · have HCT2 := Lib.hid (HCT.out.trans (if_neg hneg))
      obtain ⟨v, rfl⟩ : ∃ v : Nat, V = (v : Int) := ⟨V.toNat, by omega⟩
      have hv : v ≤ 1 := by have := HVC.out; omega
      have C1 := Lib.hid (fun w => number_any _ v w (Nat.le_refl _) (by omega))
      rw [show ((v : Int)).toNat = v by omega] at HCT2
      go_wp2_with fail
      refine (C1.out _).mono ?_
      rintro e w7 ⟨rfl, rfl⟩
      go_wp2_with fail
      go_ret
      exact ⟨by rw [HAF.out]; show _ = Ending.returned (Value.string ⟨(crwT _ _ _ _ _).toArray⟩); rw [HCT2.out]; rfl, HK6.out⟩
set_option maxHeartbeats 4000000 in
theorem sAnswer_most (s p t : ByteArray) (w : World) (hs : s.size ≤ 1099511627775) (ht : t.size ≤ s.size) (hP : splitA 32 [] s.data.toList = [p.data.toList, t.data.toList]) (hw : p.data.toList = w_most) :
    Calls Tryz.prog 12 #[.string s] w (SAns s w) := by
  have HP := Lib.hid hP
  have HW := Lib.hid hw
  have h_elect : (p.toList == [101, 108, 101, 99, 116]) = false := no_word (by rw [hw]; decide)
  have h_tokens : (p.toList == [116, 111, 107, 101, 110, 115]) = false := no_word (by rw [hw]; decide)
  have h_some : (p.toList == [115, 111, 109, 101]) = false := no_word (by rw [hw]; decide)
  have h_three : (p.toList == [116, 104, 114, 101, 101]) = false := no_word (by rw [hw]; decide)
  have h_most : (p.toList == [109, 111, 115, 116]) = true := is_word hw
  have HA := Lib.hid (answ_known (A := answF w_most (rdL t)) hP (by rw [hw]; decide) (by rw [hw]))
  clear hw hP
  go_enter Tryz.func12, Tryz.ntmps12
  go_wp2_with fail
  refine (splitAt_any s 32 _ hs).mono ?_
  rintro e w1 ⟨gS, cS, l, rfl, hO, hl, hk1⟩
  obtain rfl := two_pieces l (hl.trans HP.out)
  obtain ⟨_, _, e, c0⟩ := hO.strs 0 (by simp)
  cases e
  obtain ⟨_, _, e, c1⟩ := hO.strs 1 (by simp)
  cases e
  dsimp only at c0 c1
  have hlen : ([p, t] : List ByteArray).length = 2 := rfl
  clear hl hO
  go_wp2_with fail
  refine (readList_any t _ (by omega)).mono ?_
  rintro e w2 ⟨g2, m, c2, rfl, hO2, hk2⟩
  have HI : Hid (Ints w2 (some ⟨g2, 0, none⟩) m (fun i => (rdL t).getD i 0)) := Lib.hid hO2.ints
  have HK := Lib.hid (hk1.step hk2)
  have hml : (rdL t).length = m := hO2.len
  have hm := readL_le t
  rw [hml] at hm
  have hc0 := cell_keeps hk2 c0
  clear hO2 hk1 hk2 c0 c1 hlen
  go_wp2_with fail
  have HA2 := Lib.hid (HA.out.trans (by rw [answF_most]))
  have hpe : p = ⟨#[109, 111, 115, 116]⟩ := lst_eq HW.out
  have CR := Lib.hid (rulesOf_most w2)
  rw [← hpe] at CR
  clear hpe HA
  refine CR.out.mono ?_
  rintro e w3 ⟨S, A, B, rA, rB, rfl, hRul, ⟨hrA, hrB⟩, hk3⟩
  have HR := Lib.hid (hRul w3 (fun _ _ _ => rfl))
  have HRB : Hid (rulB 4 (lsI [0, 1, 0, 1]) 4 rA (lsII [[0, 2, 0, 0], [2, 1, 1, 1], [2, 3, 2, 2], [2, 3, 2, 3]]) 4 rB (lsII [[0, 2, 2, 2], [2, 1, 3, 3], [0, 1, 2, 2], [0, 1, 2, 3]]) = true) := Lib.hid (rulB_most rA rB hrA hrB)
  have HI3 := Lib.hid (HI.out.keeps hk3)
  have HK3 := Lib.hid (HK.out.step hk3)
  clear hRul hrA hrB hk3 hc0 CR
  go_wp2_with fail
  have HB := Lib.hid (Blk.new w3 #[.slice S 4 4, .slice A 4 4, .slice B 4 4] 54)
  have HK4 := Lib.hid (HK3.out.step (Keeps.alloc w3 (.cells #[.slice S 4 4, .slice A 4 4, .slice B 4 4] 54)))
  have HI4 := Lib.hid (HI3.out.keeps (Keeps.alloc w3 (.cells #[.slice S 4 4, .slice A 4 4, .slice B 4 4] 54)))
  have HR4 := Lib.hid (HR.out.keeps (Keeps.alloc w3 (.cells #[.slice S 4 4, .slice A 4 4, .slice B 4 4] 54)))
  obtain ⟨b, hbb⟩ : ∃ b, b = w3.heap.size := ⟨_, rfl⟩
  rw [← hbb] at HB ⊢
  clear hbb
  generalize w3.alloc (.cells #[.slice S 4 4, .slice A 4 4, .slice B 4 4] 54) = w4 at *
  subst hml
  have CV := Lib.hid (validCrowd_any S A B (some ⟨g2, 0, none⟩) 4 4 4 4 4 4 c2 (rdL t) w4 (by omega) HI4.out (by omega))
  cases hb : crwB 4 (rdL t)
  · rw [hb] at CV HA2
    clear hb
    refine CV.out.mono ?_
    rintro e w5 ⟨rfl, hk5⟩
    go_wp2_with fail
    go_ret
    exact ⟨by rw [HA2.out]; rfl, HK4.out.step hk5⟩
  · have CX := Lib.hid (fun w' (k : Keeps w4 w') => sVerdictOf_any S A B (some ⟨g2, 0, none⟩) 4 4 4 4 4 4 c2 (lsI [0, 1, 0, 1]) rA rB (lsII [[0, 2, 0, 0], [2, 1, 1, 1], [2, 3, 2, 2], [2, 3, 2, 3]]) (lsII [[0, 2, 2, 2], [2, 1, 3, 3], [0, 1, 2, 2], [0, 1, 2, 3]]) (rdL t) w' (HR4.out.keeps k) (HI4.out.keeps k) (by omega))
    rw [HRB.out, hb] at CX
    rw [hb] at CV HA2
    clear hb
    have HVC := Lib.hid (verd_cases (natF (lsII [[0, 2, 0, 0], [2, 1, 1, 1], [2, 3, 2, 2], [2, 3, 2, 3]])) (natF (lsII [[0, 2, 2, 2], [2, 1, 3, 3], [0, 1, 2, 2], [0, 1, 2, 3]])) 4 (lsI [0, 1, 0, 1]) (rdL t))
    have HCT : Hid (crwT [[0, 2, 0, 0], [2, 1, 1, 1], [2, 3, 2, 2], [2, 3, 2, 3]] [[0, 2, 2, 2], [2, 1, 3, 3], [0, 1, 2, 2], [0, 1, 2, 3]] 4 [0, 1, 0, 1] (rdL t) = if verd (natF (lsII [[0, 2, 0, 0], [2, 1, 1, 1], [2, 3, 2, 2], [2, 3, 2, 3]])) (natF (lsII [[0, 2, 2, 2], [2, 1, 3, 3], [0, 1, 2, 2], [0, 1, 2, 3]])) 4 (lsI [0, 1, 0, 1]) (rdL t) < 0 then w_open else decDigits (verd (natF (lsII [[0, 2, 0, 0], [2, 1, 1, 1], [2, 3, 2, 2], [2, 3, 2, 3]])) (natF (lsII [[0, 2, 2, 2], [2, 1, 3, 3], [0, 1, 2, 2], [0, 1, 2, 3]])) 4 (lsI [0, 1, 0, 1]) (rdL t)).toNat) := Lib.hid rfl
    generalize verd (natF (lsII [[0, 2, 0, 0], [2, 1, 1, 1], [2, 3, 2, 2], [2, 3, 2, 3]])) (natF (lsII [[0, 2, 2, 2], [2, 1, 3, 3], [0, 1, 2, 2], [0, 1, 2, 3]])) 4 (lsI [0, 1, 0, 1]) (rdL t) = V at *
    refine CV.out.mono ?_
    rintro e w5 ⟨rfl, hk5⟩
    have hB5 := HB.out.keeps hk5
    have e0 : w5.cell? ⟨b, 0, none⟩ = some (.slice S 4 4) := hB5.cell 0
    have e1 : w5.cell? ⟨b, 1, none⟩ = some (.slice A 4 4) := hB5.cell 1
    have e2 : w5.cell? ⟨b, 2, none⟩ = some (.slice B 4 4) := hB5.cell 2
    have CX5 := Lib.hid (CX.out w5 hk5)
    have HK5 := Lib.hid (HK4.out.step hk5)
    clear hk5 hB5
    go_wp2_with fail
    refine CX5.out.mono ?_
    rintro e w6 ⟨rfl, hk6⟩
    have HK6 := Lib.hid (HK5.out.step hk6)
    clear hk6 e0 e1 e2
    have HAF := Lib.hid (HA2.out.trans (by rw [if_pos trivial]))
    by_cases hneg : V < 0
    · have HCT2 := Lib.hid (HCT.out.trans (if_pos hneg))
      go_wp2_with fail
      go_ret
      exact ⟨by rw [HAF.out]; show _ = Ending.returned (Value.string ⟨(crwT _ _ _ _ _).toArray⟩); rw [HCT2.out]; rfl, HK6.out⟩
    · have HCT2 := Lib.hid (HCT.out.trans (if_neg hneg))
      obtain ⟨v, rfl⟩ : ∃ v : Nat, V = (v : Int) := ⟨V.toNat, by omega⟩
      have hv : v ≤ 1 := by have := HVC.out; omega
      have C1 := Lib.hid (fun w => number_any _ v w (Nat.le_refl _) (by omega))
      rw [show ((v : Int)).toNat = v by omega] at HCT2
      go_wp2_with fail
      refine (C1.out _).mono ?_
      rintro e w7 ⟨rfl, rfl⟩
      go_wp2_with fail
      go_ret
      exact ⟨by rw [HAF.out]; show _ = Ending.returned (Value.string ⟨(crwT _ _ _ _ _).toArray⟩); rw [HCT2.out]; rfl, HK6.out⟩
set_option maxHeartbeats 4000000 in
theorem sAnswer_odd (s p t : ByteArray) (w : World) (hs : s.size ≤ 1099511627775) (ht : t.size ≤ s.size) (hP : splitA 32 [] s.data.toList = [p.data.toList, t.data.toList]) (hw : p.data.toList = w_odd) :
    Calls Tryz.prog 12 #[.string s] w (SAns s w) := by
  have HP := Lib.hid hP
  have HW := Lib.hid hw
  have h_elect : (p.toList == [101, 108, 101, 99, 116]) = false := no_word (by rw [hw]; decide)
  have h_tokens : (p.toList == [116, 111, 107, 101, 110, 115]) = false := no_word (by rw [hw]; decide)
  have h_some : (p.toList == [115, 111, 109, 101]) = false := no_word (by rw [hw]; decide)
  have h_three : (p.toList == [116, 104, 114, 101, 101]) = false := no_word (by rw [hw]; decide)
  have h_most : (p.toList == [109, 111, 115, 116]) = false := no_word (by rw [hw]; decide)
  have h_odd : (p.toList == [111, 100, 100]) = true := is_word hw
  have HA := Lib.hid (answ_known (A := answF w_odd (rdL t)) hP (by rw [hw]; decide) (by rw [hw]))
  clear hw hP
  go_enter Tryz.func12, Tryz.ntmps12
  go_wp2_with fail
  refine (splitAt_any s 32 _ hs).mono ?_
  rintro e w1 ⟨gS, cS, l, rfl, hO, hl, hk1⟩
  obtain rfl := two_pieces l (hl.trans HP.out)
  obtain ⟨_, _, e, c0⟩ := hO.strs 0 (by simp)
  cases e
  obtain ⟨_, _, e, c1⟩ := hO.strs 1 (by simp)
  cases e
  dsimp only at c0 c1
  have hlen : ([p, t] : List ByteArray).length = 2 := rfl
  clear hl hO
  go_wp2_with fail
  refine (readList_any t _ (by omega)).mono ?_
  rintro e w2 ⟨g2, m, c2, rfl, hO2, hk2⟩
  have HI : Hid (Ints w2 (some ⟨g2, 0, none⟩) m (fun i => (rdL t).getD i 0)) := Lib.hid hO2.ints
  have HK := Lib.hid (hk1.step hk2)
  have hml : (rdL t).length = m := hO2.len
  have hm := readL_le t
  rw [hml] at hm
  have hc0 := cell_keeps hk2 c0
  clear hO2 hk1 hk2 c0 c1 hlen
  go_wp2_with fail
  have HA2 := Lib.hid (HA.out.trans (by rw [answF_odd]))
  have hpe : p = ⟨#[111, 100, 100]⟩ := lst_eq HW.out
  have CR := Lib.hid (rulesOf_odd w2)
  rw [← hpe] at CR
  clear hpe HA
  refine CR.out.mono ?_
  rintro e w3 ⟨S, A, B, rA, rB, rfl, hRul, ⟨hrA, hrB⟩, hk3⟩
  have HR := Lib.hid (hRul w3 (fun _ _ _ => rfl))
  have HRB : Hid (rulB 4 (lsI [0, 1, 0, 1]) 4 rA (lsII [[0, 1, 0, 0], [1, 0, 1, 1], [2, 3, 2, 2], [2, 3, 3, 3]]) 4 rB (lsII [[2, 3, 2, 2], [3, 2, 3, 3], [0, 1, 2, 3], [0, 1, 2, 3]]) = true) := Lib.hid (rulB_odd rA rB hrA hrB)
  have HI3 := Lib.hid (HI.out.keeps hk3)
  have HK3 := Lib.hid (HK.out.step hk3)
  clear hRul hrA hrB hk3 hc0 CR
  go_wp2_with fail
  have HB := Lib.hid (Blk.new w3 #[.slice S 4 4, .slice A 4 4, .slice B 4 4] 54)
  have HK4 := Lib.hid (HK3.out.step (Keeps.alloc w3 (.cells #[.slice S 4 4, .slice A 4 4, .slice B 4 4] 54)))
  have HI4 := Lib.hid (HI3.out.keeps (Keeps.alloc w3 (.cells #[.slice S 4 4, .slice A 4 4, .slice B 4 4] 54)))
  have HR4 := Lib.hid (HR.out.keeps (Keeps.alloc w3 (.cells #[.slice S 4 4, .slice A 4 4, .slice B 4 4] 54)))
  obtain ⟨b, hbb⟩ : ∃ b, b = w3.heap.size := ⟨_, rfl⟩
  rw [← hbb] at HB ⊢
  clear hbb
  generalize w3.alloc (.cells #[.slice S 4 4, .slice A 4 4, .slice B 4 4] 54) = w4 at *
  subst hml
  have CV := Lib.hid (validCrowd_any S A B (some ⟨g2, 0, none⟩) 4 4 4 4 4 4 c2 (rdL t) w4 (by omega) HI4.out (by omega))
  cases hb : crwB 4 (rdL t)
  · rw [hb] at CV HA2
    clear hb
    refine CV.out.mono ?_
    rintro e w5 ⟨rfl, hk5⟩
    go_wp2_with fail
    go_ret
    exact ⟨by rw [HA2.out]; rfl, HK4.out.step hk5⟩
  · have CX := Lib.hid (fun w' (k : Keeps w4 w') => sVerdictOf_any S A B (some ⟨g2, 0, none⟩) 4 4 4 4 4 4 c2 (lsI [0, 1, 0, 1]) rA rB (lsII [[0, 1, 0, 0], [1, 0, 1, 1], [2, 3, 2, 2], [2, 3, 3, 3]]) (lsII [[2, 3, 2, 2], [3, 2, 3, 3], [0, 1, 2, 3], [0, 1, 2, 3]]) (rdL t) w' (HR4.out.keeps k) (HI4.out.keeps k) (by omega))
    rw [HRB.out, hb] at CX
    rw [hb] at CV HA2
    clear hb
    have HVC := Lib.hid (verd_cases (natF (lsII [[0, 1, 0, 0], [1, 0, 1, 1], [2, 3, 2, 2], [2, 3, 3, 3]])) (natF (lsII [[2, 3, 2, 2], [3, 2, 3, 3], [0, 1, 2, 3], [0, 1, 2, 3]])) 4 (lsI [0, 1, 0, 1]) (rdL t))
    have HCT : Hid (crwT [[0, 1, 0, 0], [1, 0, 1, 1], [2, 3, 2, 2], [2, 3, 3, 3]] [[2, 3, 2, 2], [3, 2, 3, 3], [0, 1, 2, 3], [0, 1, 2, 3]] 4 [0, 1, 0, 1] (rdL t) = if verd (natF (lsII [[0, 1, 0, 0], [1, 0, 1, 1], [2, 3, 2, 2], [2, 3, 3, 3]])) (natF (lsII [[2, 3, 2, 2], [3, 2, 3, 3], [0, 1, 2, 3], [0, 1, 2, 3]])) 4 (lsI [0, 1, 0, 1]) (rdL t) < 0 then w_open else decDigits (verd (natF (lsII [[0, 1, 0, 0], [1, 0, 1, 1], [2, 3, 2, 2], [2, 3, 3, 3]])) (natF (lsII [[2, 3, 2, 2], [3, 2, 3, 3], [0, 1, 2, 3], [0, 1, 2, 3]])) 4 (lsI [0, 1, 0, 1]) (rdL t)).toNat) := Lib.hid rfl
    generalize verd (natF (lsII [[0, 1, 0, 0], [1, 0, 1, 1], [2, 3, 2, 2], [2, 3, 3, 3]])) (natF (lsII [[2, 3, 2, 2], [3, 2, 3, 3], [0, 1, 2, 3], [0, 1, 2, 3]])) 4 (lsI [0, 1, 0, 1]) (rdL t) = V at *
    refine CV.out.mono ?_
    rintro e w5 ⟨rfl, hk5⟩
    have hB5 := HB.out.keeps hk5
    have e0 : w5.cell? ⟨b, 0, none⟩ = some (.slice S 4 4) := hB5.cell 0
    have e1 : w5.cell? ⟨b, 1, none⟩ = some (.slice A 4 4) := hB5.cell 1
    have e2 : w5.cell? ⟨b, 2, none⟩ = some (.slice B 4 4) := hB5.cell 2
    have CX5 := Lib.hid (CX.out w5 hk5)
    have HK5 := Lib.hid (HK4.out.step hk5)
    clear hk5 hB5
    go_wp2_with fail
    refine CX5.out.mono ?_
    rintro e w6 ⟨rfl, hk6⟩
    have HK6 := Lib.hid (HK5.out.step hk6)
    clear hk6 e0 e1 e2
    have HAF := Lib.hid (HA2.out.trans (by rw [if_pos trivial]))
    by_cases hneg : V < 0
    · have HCT2 := Lib.hid (HCT.out.trans (if_pos hneg))
      go_wp2_with fail
      go_ret
      exact ⟨by rw [HAF.out]; show _ = Ending.returned (Value.string ⟨(crwT _ _ _ _ _).toArray⟩); rw [HCT2.out]; rfl, HK6.out⟩
    · have HCT2 := Lib.hid (HCT.out.trans (if_neg hneg))
      obtain ⟨v, rfl⟩ : ∃ v : Nat, V = (v : Int) := ⟨V.toNat, by omega⟩
      have hv : v ≤ 1 := by have := HVC.out; omega
      have C1 := Lib.hid (fun w => number_any _ v w (Nat.le_refl _) (by omega))
      rw [show ((v : Int)).toNat = v by omega] at HCT2
      go_wp2_with fail
      refine (C1.out _).mono ?_
      rintro e w7 ⟨rfl, rfl⟩
      go_wp2_with fail
      go_ret
      exact ⟨by rw [HAF.out]; show _ = Ending.returned (Value.string ⟨(crwT _ _ _ _ _).toArray⟩); rw [HCT2.out]; rfl, HK6.out⟩
set_option maxHeartbeats 4000000 in
theorem sAnswer_other (s p t : ByteArray) (w : World) (hs : s.size ≤ 1099511627775) (ht : t.size ≤ s.size) (hP : splitA 32 [] s.data.toList = [p.data.toList, t.data.toList]) (hw : knownB p.data.toList = false) :
    Calls Tryz.prog 12 #[.string s] w (SAns s w) := by
  have HP := Lib.hid hP
  have HW := Lib.hid hw
  have h_elect : (p.toList == [101, 108, 101, 99, 116]) = false := no_word (fun h => by rw [h] at hw; revert hw; decide)
  have h_tokens : (p.toList == [116, 111, 107, 101, 110, 115]) = false := no_word (fun h => by rw [h] at hw; revert hw; decide)
  have h_some : (p.toList == [115, 111, 109, 101]) = false := no_word (fun h => by rw [h] at hw; revert hw; decide)
  have h_three : (p.toList == [116, 104, 114, 101, 101]) = false := no_word (fun h => by rw [h] at hw; revert hw; decide)
  have h_most : (p.toList == [109, 111, 115, 116]) = false := no_word (fun h => by rw [h] at hw; revert hw; decide)
  have h_odd : (p.toList == [111, 100, 100]) = false := no_word (fun h => by rw [h] at hw; revert hw; decide)
  have h_muddy : (p.toList == [109, 117, 100, 100, 121]) = false := no_word (fun h => by rw [h] at hw; revert hw; decide)
  clear hw hP
  go_enter Tryz.func12, Tryz.ntmps12
  go_wp2_with fail
  refine (splitAt_any s 32 _ hs).mono ?_
  rintro e w1 ⟨gS, cS, l, rfl, hO, hl, hk1⟩
  obtain rfl := two_pieces l (hl.trans HP.out)
  obtain ⟨_, _, e, c0⟩ := hO.strs 0 (by simp)
  cases e
  obtain ⟨_, _, e, c1⟩ := hO.strs 1 (by simp)
  cases e
  dsimp only at c0 c1
  have hlen : ([p, t] : List ByteArray).length = 2 := rfl
  clear hl hO
  go_wp2_with fail
  refine (readList_any t _ (by omega)).mono ?_
  rintro e w2 ⟨g2, m, c2, rfl, hO2, hk2⟩
  have HI : Hid (Ints w2 (some ⟨g2, 0, none⟩) m (fun i => (rdL t).getD i 0)) := Lib.hid hO2.ints
  have HK := Lib.hid (hk1.step hk2)
  have hml : (rdL t).length = m := hO2.len
  have hm := readL_le t
  rw [hml] at hm
  have hc0 := cell_keeps hk2 c0
  clear hO2 hk1 hk2 c0 c1 hlen
  go_wp2_with fail
  go_ret
  refine ⟨?_, HK.out⟩
  have h : answ s.data.toList = w_what := by
    unfold answ
    rw [HP.out]
    simp only
    rw [HW.out]
    rfl
  rw [h]
  rfl
end Go.Proofs.YtlniogfinofakaaGreatDoor
/-
  The contracts of answer at muddy and of RunDesk of the reference. Condition: lines of at most 2^20 bytes.
-/
namespace Go.Proofs.YtlniogfinofakaaGreatDoor
set_option maxRecDepth 100000
open Go.RowKit Go.Lib
set_option linter.unusedVariables false
set_option linter.unusedSimpArgs false

theorem mudB_len {L : List Int} (h : L.length ≠ 2) : mudB L = false := by unfold mudB; rw [decide_eq_false h]; rfl
theorem mudB_two {L : List Int} (h : L.length = 2) : mudB L = (inB (L.getD 0 0) 1 4 && inB (L.getD 1 0) 1 ((2 ^ (L.getD 0 0).toNat : Nat) - 1)) := by unfold mudB; rw [decide_eq_true h, Bool.true_and]
set_option maxHeartbeats 4000000 in
theorem sAnswer_muddy (s p t : ByteArray) (w : World) (hs : s.size ≤ 1099511627775) (ht : t.size ≤ s.size) (hP : splitA 32 [] s.data.toList = [p.data.toList, t.data.toList]) (hw : p.data.toList = w_muddy) :
    Calls Tryz.prog 12 #[.string s] w (SAns s w) := by
  have HP := Lib.hid hP
  have HW := Lib.hid hw
  have h_elect : (p.toList == [101, 108, 101, 99, 116]) = false := no_word (by rw [hw]; decide)
  have h_tokens : (p.toList == [116, 111, 107, 101, 110, 115]) = false := no_word (by rw [hw]; decide)
  have h_some : (p.toList == [115, 111, 109, 101]) = false := no_word (by rw [hw]; decide)
  have h_three : (p.toList == [116, 104, 114, 101, 101]) = false := no_word (by rw [hw]; decide)
  have h_most : (p.toList == [109, 111, 115, 116]) = false := no_word (by rw [hw]; decide)
  have h_odd : (p.toList == [111, 100, 100]) = false := no_word (by rw [hw]; decide)
  have h_muddy : (p.toList == [109, 117, 100, 100, 121]) = true := is_word hw
  have HA := Lib.hid (answ_known (A := answF w_muddy (rdL t)) hP (by rw [hw]; decide) (by rw [hw]))
  clear hw hP
  go_enter Tryz.func12, Tryz.ntmps12
  go_wp2_with fail
  refine (splitAt_any s 32 _ hs).mono ?_
  rintro e w1 ⟨gS, cS, l, rfl, hO, hl, hk1⟩
  obtain rfl := two_pieces l (hl.trans HP.out)
  obtain ⟨_, _, e, c0⟩ := hO.strs 0 (by simp)
  cases e
  obtain ⟨_, _, e, c1⟩ := hO.strs 1 (by simp)
  cases e
  dsimp only at c0 c1
  have hlen : ([p, t] : List ByteArray).length = 2 := rfl
  clear hl hO
  go_wp2_with fail
  refine (readList_any t _ (by omega)).mono ?_
  rintro e w2 ⟨g2, m, c2, rfl, hO2, hk2⟩
  have HI : Hid (Ints w2 (some ⟨g2, 0, none⟩) m (fun i => (rdL t).getD i 0)) := Lib.hid hO2.ints
  have HK := Lib.hid (hk1.step hk2)
  have hml : (rdL t).length = m := hO2.len
  have hm := readL_le t
  rw [hml] at hm
  have hc0 := cell_keeps hk2 c0
  clear hO2 hk1 hk2 c0 c1 hlen
  go_wp2_with fail
  have HA2 := Lib.hid (HA.out.trans (by rw [answF_muddy]))
  by_cases h2 : m = 2
  · subst h2
    have HM2 := Lib.hid (mudB_two hml)
    obtain ⟨_, _, e, d0⟩ := HI.out 0 (by omega)
    cases e
    obtain ⟨_, _, e, d1⟩ := HI.out 1 (by omega)
    cases e
    dsimp only at d0 d1
    have HMT : Hid (mudT (rdL t) = decDigits (muT ((rdL t).getD 0 0).toNat ((rdL t).getD 1 0).toNat)) := Lib.hid rfl
    generalize (rdL t).getD 0 0 = x0 at *
    generalize (rdL t).getD 1 0 = x1 at *
    cases hb0 : inB x0 1 4
    · have HF := Lib.hid (HA2.out.trans (by rw [HM2.out, hb0]))
      have CI := Lib.hid (fun w => inRange_any x0 1 4 w)
      rw [hb0] at CI
      clear hb0 HA2 HM2
      go_quiet ((go_at_call 37; exact Calls.quiet_of_same (sym' (CI.out _))))
      go_wp2_with fail
      go_ret
      exact ⟨by rw [HF.out]; rfl, HK.out.step (Keeps.drewN _ _)⟩
    · have hx0 := inB_true hb0
      obtain ⟨n, rfl⟩ : ∃ n : Nat, x0 = (n : Int) := ⟨x0.toNat, by omega⟩
      have CI := Lib.hid (fun w => inRange_any n 1 4 w)
      rw [hb0] at CI HM2
      have CP := Lib.hid (fun w => spower_any n w (by omega))
      have hp := pow16 (n := n) (by omega)
      have hp1 : 1 ≤ 2 ^ n := Nat.one_le_two_pow
      have CMY := Lib.hid (fun (w0 : Nat) w h1 h2 => sMuddyOf_yes n w0 w (by omega) (by omega) h1 h2)
      rw [show ((n : Int)).toNat = n by omega] at HM2 HMT
      generalize hPW : 2 ^ n = P at *
      clear hb0 hPW
      have CJ := Lib.hid (fun w => inRange_any x1 1 ((P : Int) - 1) w)
      have hwr : IntKind.i64.wrap ((P : Int) - 1) = (P : Int) - 1 := by rw [IntKind.wrap_i64]; omega
      cases hb1 : inB x1 1 ((P : Int) - 1)
      · have HF := Lib.hid (HA2.out.trans (by rw [HM2.out, hb1]))
        rw [hb1] at CJ
        clear hb1 HA2 HM2
        go_quiet ((first | (go_at_call 37; first | (with_reducible exact Calls.quiet_of_same (sym' (CI.out _))) | (with_reducible exact Calls.quiet_of_same (sym' (CJ.out _)))) | (go_at_call 38; exact Calls.quiet_of_same (sym' (CP.out _)))))
        go_wp2_with fail
        go_ret
        exact ⟨by rw [HF.out]; rfl, HK.out.step (Keeps.drewN _ _)⟩
      · have hx1 := inB_true hb1
        obtain ⟨w0, rfl⟩ : ∃ w0 : Nat, x1 = (w0 : Int) := ⟨x1.toNat, by omega⟩
        have HF := Lib.hid (HA2.out.trans (by rw [HM2.out, hb1]))
        rw [hb1] at CJ
        rw [show ((w0 : Int)).toNat = w0 by omega] at HMT
        have CM := Lib.hid (fun w => CMY.out w0 w (by omega) (by omega))
        have hmt := muT_le n w0
        clear hb1 HA2 HM2 CMY
        generalize muT n w0 = k at *
        have C1 := Lib.hid (fun w => number_any _ k w (Nat.le_refl _) (by omega))
        go_quiet ((first | (go_at_call 37; first | (with_reducible exact Calls.quiet_of_same (sym' (CI.out _))) | (with_reducible exact Calls.quiet_of_same (sym' (CJ.out _)))) | (go_at_call 38; exact Calls.quiet_of_same (sym' (CP.out _)))))
        have HK3 := Lib.hid (HK.out.step (Keeps.drewN w2 nq))
        have f0 := cell_keeps (Keeps.drewN w2 nq) d0
        have f1 := cell_keeps (Keeps.drewN w2 nq) d1
        clear d0 d1 HK
        generalize w2.drewN nq = w3 at *
        go_wp2_with fail
        go_region_law (first | (refine step_go 39 #[.tmp 98, .tmp 101] #[3, 3] rfl rfl (fun _ _ => rfl) (by simp [Act.eval, Act.put]) (CM.out _) ?_; rintro e w4 ⟨v, rfl, hk4⟩; refine ⟨_, rfl, ?_⟩) | fail)
        all_goals
          have HK4 := Lib.hid (HK3.out.step ((Keeps.drew1 w3).step hk4))
          clear hk4
          go_wp2_with fail
          refine (C1.out _).mono ?_
          rintro e w5 ⟨rfl, rfl⟩
          go_wp2_with fail
          go_ret
          refine ⟨?_, HK4.out⟩
          rw [HF.out]
          show _ = Ending.returned (Value.string ⟨(mudT (rdL t)).toArray⟩)
          rw [HMT.out]
          rfl
  · have HF := Lib.hid (HA2.out.trans (by rw [mudB_len (by rw [hml]; exact h2)]))
    have hne : ((m : Int) != 2) = true := by simp; omega
    have hne2 : ((m : Int) == 2) = false := by simp; omega
    clear HA2
    go_quiet (fail)
    go_wp2_with fail
    go_ret
    exact ⟨by rw [HF.out]; rfl, HK.out.step (Keeps.drewN _ _)⟩
set_option maxHeartbeats 4000000 in
theorem sAnswer_what (s : ByteArray) (w : World) (hs : s.size ≤ 1099511627775) (hP : (splitA 32 [] s.data.toList).length ≠ 2) :
    Calls Tryz.prog 12 #[.string s] w (SAns s w) := by
  have HF : Hid (answ s.data.toList = w_what) := Lib.hid (by
    unfold answ
    generalize splitA 32 [] s.data.toList = l at *
    match l, hP with
    | [], _ => rfl
    | [a], _ => rfl
    | [a, b], h => exact absurd rfl h
    | a :: b :: c :: r, _ => rfl)
  go_enter Tryz.func12, Tryz.ntmps12
  go_wp2_with fail
  refine (splitAt_any s 32 _ hs).mono ?_
  rintro e w1 ⟨gS, cS, l, rfl, hO, hl, hk1⟩
  have h2 : l.length ≠ 2 := by rw [← hl, List.length_map] at hP; exact hP
  have hne : ((l.length : Int) != 2) = true := by simp; omega
  have hne2 : ((l.length : Int) == 2) = false := by simp; omega
  have HK := Lib.hid hk1
  generalize l.length = m at *
  clear hO hl hP hk1
  go_wp2_with fail
  go_ret
  exact ⟨by rw [HF.out]; rfl, HK.out⟩
theorem piece_le {s : ByteArray} {p : List UInt8} (h : p ∈ splitA 32 [] s.data.toList) : p.length ≤ s.size := by
  have h1 := splitA_sz 32 _ _ _ h
  have e : s.data.toList.length = s.size := by simp
  simp only [List.length_nil] at h1
  omega
theorem sAnswer_any (s : ByteArray) (w : World) (hs : s.size ≤ 1099511627775) : Calls Tryz.prog 12 #[.string s] w (SAns s w) := by
  by_cases h2 : (splitA 32 [] s.data.toList).length = 2
  · obtain ⟨a, b, hab⟩ : ∃ a b, splitA 32 [] s.data.toList = [a, b] := by
      generalize splitA 32 [] s.data.toList = l at *
      match l, h2 with
      | [a, b], _ => exact ⟨a, b, rfl⟩
    have hb := piece_le (s := s) (p := b) (by rw [hab]; simp)
    obtain ⟨p, hp⟩ : ∃ p : ByteArray, p.data.toList = a := ⟨⟨a.toArray⟩, by simp⟩
    obtain ⟨t, ht⟩ : ∃ t : ByteArray, t.data.toList = b := ⟨⟨b.toArray⟩, by simp⟩
    rw [← hp, ← ht] at hab
    have hts : t.size ≤ s.size := by
      have e : t.data.toList.length = t.size := by simp
      rw [← ht] at hb
      omega
    by_cases e1 : p.data.toList = w_elect
    · exact sAnswer_elect s p t w hs hts hab e1
    by_cases e2 : p.data.toList = w_tokens
    · exact sAnswer_tokens s p t w hs hts hab e2
    by_cases e3 : p.data.toList = w_muddy
    · exact sAnswer_muddy s p t w hs hts hab e3
    by_cases e4 : p.data.toList = w_some
    · exact sAnswer_some s p t w hs hts hab e4
    by_cases e5 : p.data.toList = w_three
    · exact sAnswer_three s p t w hs hts hab e5
    by_cases e6 : p.data.toList = w_most
    · exact sAnswer_most s p t w hs hts hab e6
    by_cases e7 : p.data.toList = w_odd
    · exact sAnswer_odd s p t w hs hts hab e7
    · exact sAnswer_other s p t w hs hts hab (by unfold knownB; simp [e1, e2, e3, e4, e5, e6, e7])
  · exact sAnswer_what s w hs h2
set_option maxHeartbeats 4000000 in
theorem sRunDesk_any (A : Option Addr) (n c : Nat) (f : Nat → ByteArray) (w : World) (hn : n ≤ 1099511627775) (hI : Strs w A n f) (hf : ∀ i, i < n → (f i).size ≤ 1099511627775) :
    Calls Tryz.prog 6 #[.slice A n c] w fun e w' => e = .returned (.string ⟨(deskT n f).toArray⟩) ∧ Keeps w w' := by
  have HI := Lib.hid hI
  have HF := Lib.hid hf
  clear hI hf
  by_cases h20 : 20 < n
  · have hi : (n : Int) > 20 := by omega
    have HD : Hid (deskT n f = []) := Lib.hid (if_pos h20)
    go_enter Tryz.func6, Tryz.ntmps6
    go_wp2_with fail
    go_ret
    exact ⟨by rw [HD.out]; rfl, Keeps.refl _⟩
  · have hi : ¬ (n : Int) > 20 := by omega
    have HD : Hid (deskT n f = deskK f n) := Lib.hid (if_neg h20)
    go_enter Tryz.func6, Tryz.ntmps6
    go_wp2_with fail
    go_loopw [3, 4] (fun s i wr => ∃ (k : Nat) (S : ByteArray), k ≤ n ∧ i = .int .i64 k ∧ s = .string S ∧ Hid (S = ⟨(deskK f k).toArray⟩) ∧ Hid (Keeps w wr)) (fun _ i _ => n - (intOf i).toNat)
    case atStart => exact ⟨0, _, by omega, rfl, rfl, Lib.hid rfl, Lib.hid (Keeps.refl _)⟩
    case round =>
      obtain ⟨k, S, hk, rfl, rfl, HS, HK⟩ := hrel
      by_cases hlt : k < n
      · have hki : (k : Int) < n := by omega
        obtain ⟨d, off, rfl, hc0⟩ := HI.out k hlt
        have hc := cell_keeps HK.out hc0
        have CA := Lib.hid (fun w => sAnswer_any (f k) w (HF.out k hlt))
        have hsz : S.size ≤ 101 * k := by rw [HS.out]; exact deskK_len f k
        have HN : Hid (deskK f (k + 1) = deskK f k ++ (answ (f k).data.toList ++ [10])) := Lib.hid rfl
        have hl2 := (answ_good (f k).data.toList).1
        obtain ⟨Y, hY⟩ : ∃ Y : ByteArray, Y = ⟨(answ (f k).data.toList).toArray⟩ := ⟨_, rfl⟩
        have hYs : Y.size ≤ 100 := by rw [hY]; exact hl2
        have CA2 : Hid (∀ w, Calls Tryz.prog 12 #[.string (f k)] w fun e w' => e = .returned (.string Y) ∧ Keeps w w') := Lib.hid (fun w => by rw [hY]; exact CA.out w)
        have HYY := Lib.hid hY
        clear hY hl2 hc0 CA
        generalize f k = z at *
        go_wp2_with fail
        refine (CA2.out _).mono ?_
        rintro e w1 ⟨rfl, hk1⟩
        have HK1 := Lib.hid (HK.out.step hk1)
        clear hk1 hc
        go_wp2_with fail
        go_roundw
        case rel => exact ⟨k + 1, _, by omega, by go_num, rfl, Lib.hid (by rw [HN.out, HS.out, HYY.out, ← List.append_assoc, ← str_add, ← str_add]), HK1⟩
        case measure => simp [intOf]; omega
      · obtain rfl : k = n := by omega
        go_wp2_with fail
        go_ret
        exact ⟨by rw [HD.out, ← HS.out]; rfl, HK.out⟩
end Go.Proofs.YtlniogfinofakaaGreatDoor
