/-
  The walk of FnBrokenBy: whatever the code is, it returns true, and nothing that was there turns. No condition.
-/
import Derived.Test.YtepgogaoppdllaaSBrokenBy
import Derived.Test.YtepgogaoppdllaaWExactBrokenBy
import Derived.Test.YtepgogaoppdllaaSeenLaw
namespace Go.Proofs.Ytepgogaoppdllaa
open Go.RowKit

/-- Some general does not do the order. -/
def badAt (d : Nat → Int) (order : Int) (i : Nat) : Bool := decide (0 ≤ d i) && (d i != order)
def lawAt (n o liar : Nat) : Bool :=
  let r := fromI n liar (o : Nat) (n - 1) 1 (List.replicate (n * n) 0)
  !r.1 || (decide (n = 3) && decide (o = 1) && decide (0 < liar) && anyB (badAt (ordD n liar (o : Nat) r.2) (o : Nat)) (n - 1) && decide (r.2.length = n * n))
theorem law_all : ((List.range 6).all fun n => (List.range 2).all fun o => (List.range n).all fun liar => decide (n < 3) || lawAt n o liar) = true := by decide +kernel
theorem law_search (n o liar : Nat) (hn : n < 6) (ho : o < 2) (hl : liar < n) (h3 : 3 ≤ n) : lawAt n o liar = true := by
  have h := law_all
  rw [List.all_eq_true] at h
  have h1 := h n (by simpa using hn)
  rw [List.all_eq_true] at h1
  have h2 := h1 o (by simpa using ho)
  rw [List.all_eq_true] at h2
  have h4 := h2 liar (by simpa using hl)
  rw [Bool.or_eq_true] at h4
  rcases h4 with h5 | h5
  · have := of_decide_eq_true h5; omega
  · exact h5
/-- Where an agreement is broken. -/
theorem broken_law (n order liar : Int) (h : (ansI n order liar).1 = true) : n = 3 ∧ order = 1 ∧ ∃ l : Nat, liar = l ∧ 0 < l ∧ l < 3 ∧ anyB (badAt (ordD 3 l 1 (ansI n order liar).2) 1) 2 = true ∧ Bits01 (ansI n order liar).2 ∧ (ansI n order liar).2.length = 9 := by
  cases hok : brkOk n order liar
  · unfold ansI at h; rw [hok] at h; simp at h
  · have hok' := hok
    unfold brkOk at hok'
    rw [Bool.and_eq_true, Bool.and_eq_true] at hok'
    have h1 := inB_true hok'.1.1
    have h2 := inB_true hok'.1.2
    have h3 := inB_true hok'.2
    obtain ⟨n, rfl⟩ := Int.eq_ofNat_of_zero_le (show 0 ≤ n by omega)
    obtain ⟨o, rfl⟩ := Int.eq_ofNat_of_zero_le h2.1
    obtain ⟨liar, rfl⟩ := Int.eq_ofNat_of_zero_le h3.1
    have hl := law_search n o liar (by omega) (by omega) (by omega) (by omega)
    have hb : Bits01 (fromI n liar (o : Nat) (n - 1) 1 (List.replicate (n * n) 0)).2 := fromI_bits n liar _ _ _ _ (fun i => by simp [List.getElem?_replicate]; split <;> simp)
    have hE : ansI n o liar = if (fromI n liar (o : Nat) (n - 1) 1 (List.replicate (n * n) 0)).1 then fromI n liar (o : Nat) (n - 1) 1 (List.replicate (n * n) 0) else (false, []) := by unfold ansI; rw [hok]; rfl
    rw [hE] at h ⊢
    unfold lawAt at hl
    generalize fromI n liar (o : Nat) (n - 1) 1 (List.replicate (n * n) 0) = r at *
    cases hr : r.1
    · rw [hr] at h; simp at h
    · rw [if_pos rfl]
      simp only [hr, Bool.not_true, Bool.false_or, Bool.and_eq_true, decide_eq_true_eq] at hl
      obtain ⟨⟨⟨⟨e1, e2⟩, e3⟩, e4⟩, e5⟩ := hl
      subst e1
      subst e2
      exact ⟨rfl, rfl, liar, rfl, e3, by omega, e4, hb, e5⟩
set_option maxHeartbeats 400000 in
theorem oo1_any (k : Int) (w : World) : Calls Try.prog 62 #[.int .i64 k] w fun e w' => e = .returned (.bool (!inB k 0 1)) ∧ Keeps w w' := by
  go_enter Try.func62, Try.ntmps62
  go_wp2_with fail
  refine (bitOk_any _ _).mono ?_
  rintro e w1 ⟨rfl, rfl⟩
  go_wp2
  go_ret
  exact ⟨rfl, Keeps.refl _⟩
set_option maxRecDepth 100000 in
set_option maxHeartbeats 2000000 in
theorem ordersOf_any (liar c : Nat) (L : Option Addr) (ly : Nat → Int) (w : World) (hl : liar < 3) (hI : Ints w L 9 ly) (hb : ∀ i, i < 9 → 0 ≤ ly i ∧ ly i ≤ 1) :
    Calls Try.prog 27 #[.int .i64 3, .int .i64 1, .int .i64 liar, .slice L 9 c] w (Ans w (il 2 (fun i => ordF 3 liar ly 1 (i + 1)))) := by
  have HI := Lib.hid hI
  have CO := Lib.hid (fun w' (hk : Keeps w w') => (iorders_any 3 2 liar c 1 L ly w' (by omega) rfl (by omega) (hI.keeps hk) hb : Calls Try.prog 57 #[.int .i64 3, .int .i64 1, .int .i64 liar, .slice L 9 c] w' (Ans w' (il 2 (fun i => ordF 3 liar ly 1 (i + 1))))))
  have V3 : Hid (inB liar (-1) 2 = true) := Lib.hid (inB_mk (by omega) (by omega))
  have hany : anyB (fun i => !inB (ly i) 0 1) 9 = false := (anyB_false _ _).2 (fun i hi => by rw [inB_mk (hb i hi).1 (hb i hi).2]; rfl)
  have CC := Lib.hid (intcontains_any 62 #[] L 9 c ly (fun j => !inB (ly j) 0 1) w (by omega) hI (fun _ _ => rfl) (fun k w' _ _ => by simpa using oo1_any (ly k) w'))
  have HANY := Lib.hid hany
  clear hI hb hany
  go_enter Try.func27, Try.ntmps27
  go_wp2_with fail
  refine (within_any _ _ _ _).mono ?_
  rintro e w1 ⟨rfl, rfl⟩
  rw [show inB 3 3 5 = true from rfl]
  go_wp2_with fail
  refine (bitOk_any _ _).mono ?_
  rintro e w1 ⟨rfl, rfl⟩
  rw [show inB 1 0 1 = true from rfl]
  go_wp2_with fail
  refine (within_any _ _ _ _).mono ?_
  rintro e w1 ⟨rfl, rfl⟩
  rw [V3.out]
  go_wp2_with fail
  refine CC.out.mono ?_
  rintro e w1 ⟨rfl, hk1⟩
  rw [HANY.out]
  go_wp2_with fail
  refine (CO.out _ hk1).mono ?_
  intro e w2 hA
  obtain ⟨A, ca, rfl, hO, hk2⟩ := hA.of hk1
  have HO := Lib.hid hO
  clear hO
  go_wp2
  go_ret
  exact ⟨A, ca, rfl, HO.out, hk2⟩
/-- What is drawn: three numbers. -/
def Drawn3 (w : World) (e : Ending) (w' : World) : Prop := ∃ n o l : Int, e = .returned (.tuple #[.int .i64 n, .int .i64 o, .int .i64 l]) ∧ Keeps w w'
set_option maxRecDepth 100000 in
set_option maxHeartbeats 2000000 in
theorem drawBrokenBy_any (a : Option Addr) (n c : Nat) (w : World) (hB : Bytes w w.heap.size a n) (hn : n ≤ 1099511627776) (hc : n ≤ c) (hc2 : c ≤ 9223372036854775807) :
    Calls Try.prog 26 #[.slice a n c] w (Drawn3 w) := by
  have HB := Lib.hid hB
  clear hB
  go_enter Try.func26, Try.ntmps26
  go_wp2_with fail
  refine (newReader_any a n c _ HB.out hn hc hc2).mono ?_
  rintro e w1 ⟨b, rfl, hR1, hb, hK1⟩
  go_wp2_with fail
  refine (one_lit b 0 [3, 4, 3, 5, 2, 6] 0 10 _ _ _ _ (by decide) (by decide) (by decide) (by omega) hR1 rfl (by simp) rfl).mono ?_
  rintro e w2 ⟨x, rfl, _, _, hR2, hG2⟩
  have hK2 := hG2.keeps (hK1.step (Keeps.alloc _ _)) hb
  clear hG2 hK1
  go_wp2_with fail
  refine (one_lit b 1 [1, 0, 2] 0 10 _ _ _ _ (by decide) (by decide) (by decide) (by omega) hR2 rfl (by simp) rfl).mono ?_
  rintro e w3 ⟨y, rfl, _, _, hR3, hG3⟩
  have hK3 := hG3.keeps (hK2.step (Keeps.alloc _ _)) hb
  clear hG3 hK2
  go_wp2_with fail
  refine (one_lit b 2 [1, 0, 2, 3, -1] (-1) 10 _ _ _ _ (by decide) (by decide) (by decide) (by omega) hR3 rfl (by simp) rfl).mono ?_
  rintro e w4 ⟨z, rfl, _, _, hR4, hG4⟩
  have hK4 := hG4.keeps (hK3.step (Keeps.alloc _ _)) hb
  clear hG4 hK3
  go_wp2
  refine bodyPost_ret (v := .tuple #[.int .i64 x, .int .i64 y, .int .i64 z]) (by simp [results, Try.results26, go_sem]) rfl ⟨x, y, z, rfl, hK4⟩
set_option maxRecDepth 100000 in
set_option maxHeartbeats 8000000 in
theorem FnBrokenBy_walk (a : Option Addr) (n c : Nat) (w : World) (hB : Bytes w w.heap.size a n) (hc : n ≤ c) (hc2 : c ≤ 9223372036854775807) :
    Calls Try.prog 6 #[.slice a n c] w fun e w' => e = .returned (.bool true) ∧ Keeps w w' := by
  have HB := Lib.hid hB
  clear hB
  by_cases hn : 1048576 < n
  · go_enter Try.func6, Try.ntmps6
    go_wp2
    go_ret
    exact ⟨rfl, Keeps.refl _⟩
  · go_enter Try.func6, Try.ntmps6
    go_wp2_with fail
    refine (drawBrokenBy_any a n c _ HB.out (by omega) hc hc2).mono ?_
    rintro e w1 ⟨m, order, liar, rfl, hK1⟩
    obtain ⟨N, hN, hNe⟩ : ∃ N, N ≤ 1048576 ∧ (ansI m order liar).2.length = N := ⟨_, (ansI_len m order liar).1, rfl⟩
    have HSP := Lib.hid (fun w => sbrokenBy_any m order liar w)
    have HIM := Lib.hid (fun w => brokenBy_any m order liar w)
    have HLAW := Lib.hid (broken_law m order liar)
    obtain ⟨L, hL⟩ : ∃ L, L = (ansI m order liar).2 := ⟨_, rfl⟩
    obtain ⟨b, hb⟩ : ∃ b, b = (ansI m order liar).1 := ⟨_, rfl⟩
    have HFI : Hid (∀ w' e w'', BrkAns w' (ansI m order liar) e w'' → ∃ C cc, e = .returned (.tuple #[.slice C N cc, .bool b]) ∧ OwnInts w'' w'.heap.size C N cc L ∧ Keeps w' w'') := Lib.hid (fun w' e w'' h => by
      obtain ⟨C, cc, e1, e2, e3⟩ := h
      rw [hNe, ← hb] at e1
      rw [hNe, ← hL] at e2
      exact ⟨C, cc, e1, e2, e3⟩)
    rw [← hL, ← hb] at HLAW
    have HLN := Lib.hid (show L.length = N by rw [hL]; exact hNe)
    have hbb : (b != b) = false := by simp
    have hbe : (b == b) = true := by simp
    clear hNe hL hb
    go_wp2_with fail
    refine (HIM.out _).mono ?_
    intro e w2 hA
    obtain ⟨C, cc, rfl, hOg, hk2⟩ := HFI.out _ _ _ hA
    have HOG := Lib.hid hOg
    have hK2 := hK1.step hk2
    clear hA hOg hK1 hk2
    go_wp2_with fail
    refine (HSP.out _).mono ?_
    intro e w3 hA
    obtain ⟨B, cb, rfl, hOw, hk3⟩ := HFI.out _ _ _ hA
    have HOW := Lib.hid hOw
    have HOG3 := Lib.hid (HOG.out.keeps hk3)
    have hK3 := hK2.step hk3
    clear hA hOw HOG hK2 hk3
    go_wp2_with fail
    refine (eOwn_true C B N cc cb _ _ (by omega) HOG3.out HOW.out).mono ?_
    rintro e w4 ⟨rfl, hk4⟩
    have hK4 := hK3.step hk4
    have HOG4 := Lib.hid (HOG3.out.keeps hk4)
    have HOW4 := Lib.hid (HOW.out.keeps hk4)
    clear hK3 hk4 HOG3 HOW
    cases b
    · go_wp2_with fail
      refine (eOwn_true C B N cc cb _ _ (by omega) HOG4.out HOW4.out).mono ?_
      rintro e w5 ⟨rfl, hk5⟩
      go_wp2
      go_ret
      exact ⟨rfl, hK4.step hk5⟩
    · obtain ⟨rfl, rfl, l, rfl, hl0, hl3, hbad, hbits, hlen⟩ := HLAW.out rfl
      have hN9 : N = 9 := by rw [← HLN.out, hlen]
      subst hN9
      have hl0' : (0 : Int) < l := by omega
      have HBAD := Lib.hid hbad
      have CO := Lib.hid (ordersOf_any l cc C (fun j => L.getD j 0) w4 hl3 HOG4.out.ints (fun i _ => hbits i))
      have HD := Lib.hid (show (fun i => ordF 3 l (fun j => L.getD j 0) 1 (i + 1)) = ordD 3 l 1 L from rfl)
      rw [HD.out] at CO
      generalize ordD 3 l 1 L = d at *
      clear hbad hbits hlen HLAW HFI HSP HIM
      go_wp2_with fail
      refine CO.out.mono ?_
      intro e w5 hA
      obtain ⟨D, cd, rfl, hOd, hk5⟩ := hA
      rw [il_len] at hOd ⊢
      have hI5 : Ints w5 D 2 d := fun i hi => by
        obtain ⟨b, off, e, hc⟩ := hOd.ints i hi
        exact ⟨b, off, e, by dsimp only at hc; rw [il_getD _ _ _ hi] at hc; exact hc⟩
      have HI5 := Lib.hid hI5
      clear hOd hI5
      go_wp2_with fail
      go_loopw [12, 11] (fun i v wr => ∃ k : Nat, k ≤ 2 ∧ i = .int .i64 k ∧ v = .bool (anyB (badAt d 1) k) ∧ w5 = wr) (fun i _ _ => 2 - (intOf i).toNat)
      case atStart => exact ⟨0, by omega, rfl, rfl, rfl⟩
      case round =>
        obtain ⟨k, hk, rfl, rfl, rfl⟩ := hrel
        by_cases hlt : k < 2
        · have hki : (k : Int) < 2 := by omega
          obtain ⟨b, off, rfl, hc⟩ := HI5.out k hlt
          have HS := Lib.hid (show anyB (badAt d 1) (k + 1) = (anyB (badAt d 1) k || (decide (0 ≤ d k) && (d k != 1))) from rfl)
          generalize anyB (badAt d 1) k = v at *
          generalize d k = z at *
          cases v
          · by_cases e1 : 0 ≤ z
            · have HV : Hid (anyB (badAt d 1) (k + 1) = (z != 1)) := Lib.hid (by rw [HS.out]; simp [e1])
              go_wp2
              go_roundw
              case rel => exact ⟨k + 1, by omega, by go_num, by rw [HV.out], trivial⟩
              case measure => simp [intOf]; omega
            · have HV : Hid (anyB (badAt d 1) (k + 1) = false) := Lib.hid (by rw [HS.out]; simp [e1])
              go_wp2
              go_roundw
              case rel => exact ⟨k + 1, by omega, by go_num, by rw [HV.out], trivial⟩
              case measure => simp [intOf]; omega
          · have HV : Hid (anyB (badAt d 1) (k + 1) = true) := Lib.hid (by rw [HS.out]; rfl)
            go_wp2
            go_roundw
            case rel => exact ⟨k + 1, by omega, by go_num, by rw [HV.out], trivial⟩
            case measure => simp [intOf]; omega
        · obtain rfl : k = 2 := by omega
          rw [HBAD.out]
          go_wp2
          go_ret
          exact ⟨rfl, hK4.step hk5⟩
end Go.Proofs.Ytepgogaoppdllaa
