/-
  The contract of BrokenBy (the reference), and that both searches answer the same. No condition.
-/
import Derived.Test.YtepgogaoppdllaaBrokenBy
namespace Go.Proofs.Ytepgogaoppdllaa
open Go.RowKit

/-- The reference's lies of the number x, up to q. -/
def slA (n liar x : Nat) : Nat → List Int
  | 0 => List.replicate (n * n) 0
  | q + 1 => (slA n liar x q).set (liar * n + q) (bitI (x.testBit (n - 1 - q)))
def foundS (n liar : Nat) (order : Int) (x : Nat) : Bool := ((slA n liar x n).getD (liar * n + liar) 0 == 0) && !keepD (n - 1) (ordD n liar order (slA n liar x n)) order liar
/-- The reference's search. -/
def finS (n liar : Nat) (order : Int) : Nat → Nat → Bool × List Int
  | 0, _ => (false, [])
  | f + 1, x => if foundS n liar order x then (true, slA n liar x n) else finS n liar order f (x + 1)
def sameAt (n o liar : Nat) : Bool :=
  decide ((if (fromI n liar (o : Nat) (n - 1) 1 (List.replicate (n * n) 0)).1 then fromI n liar (o : Nat) (n - 1) 1 (List.replicate (n * n) 0) else (false, [])) = finS n liar (o : Nat) (2 ^ n) 0)
theorem same_all : ((List.range 6).all fun n => (List.range 2).all fun o => (List.range n).all fun liar => decide (n < 3) || sameAt n o liar) = true := by decide +kernel
theorem same_search (n o liar : Nat) (hn : n < 6) (ho : o < 2) (hl : liar < n) (h3 : 3 ≤ n) :
    (if (fromI n liar (o : Nat) (n - 1) 1 (List.replicate (n * n) 0)).1 then fromI n liar (o : Nat) (n - 1) 1 (List.replicate (n * n) 0) else (false, [])) = finS n liar (o : Nat) (2 ^ n) 0 := by
  have h := same_all
  rw [List.all_eq_true] at h
  have h1 := h n (by simpa using hn)
  rw [List.all_eq_true] at h1
  have h2 := h1 o (by simpa using ho)
  rw [List.all_eq_true] at h2
  have h4 := h2 liar (by simpa using hl)
  rw [Bool.or_eq_true] at h4
  rcases h4 with h5 | h5
  · have := of_decide_eq_true h5; omega
  · exact of_decide_eq_true h5
theorem bitI_01 (b : Bool) : 0 ≤ bitI b ∧ bitI b ≤ 1 := by cases b <;> simp [bitI]
theorem slA_bits (n liar x : Nat) : ∀ q, Bits01 (slA n liar x q)
  | 0 => fun i => by simp [slA, List.getElem?_replicate]; split <;> simp
  | q + 1 => (slA_bits n liar x q).set _ _ (bitI_01 _)
theorem finS_step (n liar : Nat) (order : Int) (x : Nat) (h : x < 2 ^ n) : finS n liar order (2 ^ n - x) x = if foundS n liar order x then (true, slA n liar x n) else finS n liar order (2 ^ n - (x + 1)) (x + 1) := by
  obtain ⟨f, hf⟩ : ∃ f, 2 ^ n - x = f + 1 := ⟨2 ^ n - x - 1, by omega⟩
  rw [hf, show 2 ^ n - (x + 1) = f by omega]
  rfl
/-- What the reference answers. -/
theorem ansI_eq (n liar : Nat) (order : Int) (hok : brkOk n order liar = true) : ansI n order liar = finS n liar order (2 ^ n) 0 := by
  unfold ansI
  rw [hok]
  unfold brkOk at hok
  rw [Bool.and_eq_true, Bool.and_eq_true] at hok
  have h1 := inB_true hok.1.1
  have h2 := inB_true hok.1.2
  have h3 := inB_true hok.2
  obtain ⟨o, rfl⟩ := Int.eq_ofNat_of_zero_le h2.1
  simp only [if_true, Int.toNat_natCast]
  exact same_search n o liar (by omega) (by omega) (by omega) (by omega)
set_option maxRecDepth 100000 in
set_option maxHeartbeats 4000000 in
theorem sbrokenBy_any (n order liar : Int) (w : World) :
    Calls Try.prog 19 #[.int .i64 n, .int .i64 order, .int .i64 liar] w (BrkAns w (ansI n order liar)) := by
  cases v1 : inB n 3 5
  · have HV : Hid (ansI n order liar = (false, [])) := Lib.hid (by unfold ansI brkOk; rw [v1]; rfl)
    have V1 := Lib.hid v1
    clear v1
    go_enter Try.func19, Try.ntmps19
    go_wp2_with fail
    refine (inRange_any _ _ _ _).mono ?_
    rintro e w1 ⟨rfl, rfl⟩
    rw [V1.out]
    go_wp2
    refine bodyPost_ret (v := .tuple #[.slice Option.none 0 0, .bool false]) (by simp [results, Try.results19, go_sem]) rfl (BrkAns.none HV.out (Keeps.refl _))
  · have hnv := inB_true v1
    have W0 : IntKind.i64.wrap (n - 1) = n - 1 := by rw [IntKind.wrap_i64]; omega
    clear hnv
    cases v2 : inB order 0 1
    · have HV : Hid (ansI n order liar = (false, [])) := Lib.hid (by unfold ansI brkOk; rw [v1, v2]; rfl)
      have V1 := Lib.hid v1
      have V2 := Lib.hid v2
      clear v1 v2
      go_enter Try.func19, Try.ntmps19
      go_wp2_with fail
      refine (inRange_any _ _ _ _).mono ?_
      rintro e w1 ⟨rfl, rfl⟩
      rw [V1.out]
      go_wp2_with fail
      refine (inRange_any _ _ _ _).mono ?_
      rintro e w1 ⟨rfl, rfl⟩
      rw [V2.out]
      go_wp2
      refine bodyPost_ret (v := .tuple #[.slice Option.none 0 0, .bool false]) (by simp [results, Try.results19, go_sem]) rfl (BrkAns.none HV.out (Keeps.refl _))
    · cases v3 : inB liar 0 (n - 1)
      · have HV : Hid (ansI n order liar = (false, [])) := Lib.hid (by unfold ansI brkOk; rw [v1, v2, v3]; rfl)
        have V1 := Lib.hid v1
        have V2 := Lib.hid v2
        have V3 := Lib.hid v3
        clear v1 v2 v3
        go_enter Try.func19, Try.ntmps19
        go_wp2_with fail
        refine (inRange_any _ _ _ _).mono ?_
        rintro e w1 ⟨rfl, rfl⟩
        rw [V1.out]
        go_wp2_with fail
        refine (inRange_any _ _ _ _).mono ?_
        rintro e w1 ⟨rfl, rfl⟩
        rw [V2.out]
        go_wp2_with fail
        refine (inRange_any _ _ _ _).mono ?_
        rintro e w1 ⟨rfl, rfl⟩
        rw [V3.out]
        go_wp2
        refine bodyPost_ret (v := .tuple #[.slice Option.none 0 0, .bool false]) (by simp [results, Try.results19, go_sem]) rfl (BrkAns.none HV.out (Keeps.refl _))
      · have hok : brkOk n order liar = true := by unfold brkOk; rw [v1, v2, v3]; rfl
        have hn := inB_true v1
        have ho := inB_true v2
        have hl := inB_true v3
        obtain ⟨n, rfl⟩ := Int.eq_ofNat_of_zero_le (show 0 ≤ n by omega)
        obtain ⟨liar, rfl⟩ := Int.eq_ofNat_of_zero_le (show 0 ≤ liar by omega)
        have HV := Lib.hid (ansI_eq n liar order hok)
        have V1 := Lib.hid v1
        have V2 := Lib.hid v2
        have V3 := Lib.hid v3
        have HO := Lib.hid ho
        have hln : liar < n := by omega
        have hn5 : n ≤ 5 := by omega
        have hnn : n * n ≤ 25 := Nat.le_trans (Nat.mul_le_mul hn5 hn5) (by omega)
        have hp32 : 2 ^ n ≤ 32 := Nat.le_trans (Nat.pow_le_pow_right (by omega) hn5) (by omega)
        have HM : Hid ((n : Int) * (n : Int) = ((n * n : Nat) : Int)) := Lib.hid (by simp)
        have W1 : IntKind.i64.wrap ((n : Int) * (n : Int)) = ((n * n : Nat) : Int) := by rw [IntKind.wrap_i64, HM.out]; omega
        have hlb := prod_le hln hn5
        have HM2 : Hid ((liar : Int) * (n : Int) = ((liar * n : Nat) : Int)) := Lib.hid (by simp)
        have W2 : IntKind.i64.wrap ((liar : Int) * (n : Int)) = ((liar * n : Nat) : Int) := by rw [IntKind.wrap_i64, HM2.out]; omega
        have hidx : ∀ q, q < n → liar * n + q < n * n := fun q hq => idx_lt hln hq
        have HIDX := Lib.hid hidx
        have hmk := make_ints (n * n) (by omega)
        have HSTEP := Lib.hid (finS_step n liar order)
        have CPW := Lib.hid (fun w => spower_any n w (by omega))
        have HSL := Lib.hid (fun (x q : Nat) => show slA n liar x (q + 1) = (slA n liar x q).set (liar * n + q) (bitI (x.testBit (n - 1 - q))) from rfl)
        have HSL0 := Lib.hid (fun (x : Nat) => show slA n liar x 0 = List.replicate (n * n) 0 from rfl)
        have HFND := Lib.hid (fun (x : Nat) => show foundS n liar order x = (((slA n liar x n).getD (liar * n + liar) 0 == 0) && !keepD (n - 1) (ordD n liar order (slA n liar x n)) order liar) from rfl)
        have CKP : Hid (∀ (x : Nat) (g c : Nat) (w' : World) (lo : Nat), OwnInts w' lo (some ⟨g, 0, none⟩) (n * n) c (slA n liar x n) → Calls Try.prog 52 #[.int .i64 n, .int .i64 order, .int .i64 liar, .slice (some ⟨g, 0, none⟩) (n * n) c] w' fun e w'' => e = .returned (.bool (keepD (n - 1) (ordD n liar order (slA n liar x n)) order liar)) ∧ Keeps w' w'') := Lib.hid (fun x g c w' lo h => keeps_any n (n - 1) liar c order (some ⟨g, 0, none⟩) (fun j => (slA n liar x n).getD j 0) w' hn5 (by omega) HO.out h.ints (fun i _ => slA_bits n liar x n i))
        have hlnI : (liar : Int) < n := by omega
        clear v1 v2 v3 hidx hok ho hl
        generalize liar * n = ln at *
        generalize n * n = nn at *
        have hnn1 : ln + liar < nn := HIDX.out liar hln
        have hnn1' : (ln : Int) + liar < nn := by omega
        go_enter Try.func19, Try.ntmps19
        go_wp2_with fail
        refine (inRange_any _ _ _ _).mono ?_
        rintro e w1 ⟨rfl, rfl⟩
        rw [V1.out]
        go_wp2_with fail
        refine (inRange_any _ _ _ _).mono ?_
        rintro e w1 ⟨rfl, rfl⟩
        rw [V2.out]
        go_wp2_with fail
        refine (inRange_any _ _ _ _).mono ?_
        rintro e w1 ⟨rfl, rfl⟩
        rw [V3.out]
        go_wp2_with fail
        go_loopw [8] (fun i wr => ∃ x : Nat, x ≤ 2 ^ n ∧ i = .int .i64 x ∧ Hid (ansI n order liar = finS n liar order (2 ^ n - x) x) ∧ Keeps w wr) (fun i _ => 2 ^ n - (intOf i).toNat)
        case atStart => exact ⟨0, Nat.zero_le _, rfl, Lib.hid HV.out, Keeps.refl _⟩
        case round =>
          obtain ⟨x, hx, rfl, HA, hK⟩ := hrel
          by_cases hlt : x < 2 ^ n
          · have HST := Lib.hid (HSTEP.out x hlt)
            generalize h2n : 2 ^ n = P at *
            have H2N := Lib.hid h2n
            clear h2n
            have hxi : (x : Int) < P := by omega
            obtain ⟨wd, rfl⟩ : ∃ wd : World, wd = wr := ⟨_, rfl⟩
            go_wp2_with fail
            refine (CPW.out _).mono ?_
            rintro e w2 ⟨rfl, rfl⟩
            go_wp2_with fail
            go_loopw [10] (fun i wr => ∃ q : Nat, q ≤ n ∧ i = .int .i64 q ∧ OwnInts wr wd.heap.size (some ⟨wd.heap.size, 0, none⟩) nn nn (slA n liar x q) ∧ Keeps wd wr) (fun i _ => n - (intOf i).toNat)
            case atStart => exact ⟨0, by omega, rfl, by rw [HSL0.out]; exact OwnInts.make _ _ _ (Nat.le_refl _) (by omega), Keeps.alloc _ _⟩
            case round =>
              obtain ⟨q, hq, rfl, hO, hKd⟩ := hrel
              by_cases hlq : q < n
              · have hqi : (q : Int) < n := by omega
                have hix := HIDX.out q hlq
                have hix' : (ln : Int) + q < nn := by omega
                have hfz := hO.frozen (ln + q)
                have hce := hO.cell (ln + q) hix
                have CB : Hid (Calls Try.prog 51 #[.int .i64 x, .int .i64 ((n : Int) - 1 - (q : Int))] wr fun e w' => e = .returned (.int .i64 (bitI (x.testBit (n - 1 - q)))) ∧ wr = w') := Lib.hid (by
                  rw [show ((n : Int) - 1 - (q : Int)) = ((n - 1 - q : Nat) : Int) by omega]
                  exact sbit_any x (n - 1 - q) wr (by omega) (by omega))
                have HN := Lib.hid (hO.set (ln + q) (bitI (x.testBit (n - 1 - q))))
                have HS := Lib.hid (HSL.out x q)
                generalize (slA n liar x q).getD (ln + q) 0 = old at *
                generalize bitI (x.testBit (n - 1 - q)) = bv at *
                clear hO
                go_wp2_with fail
                refine CB.out.mono ?_
                rintro e w3 ⟨rfl, rfl⟩
                go_wp2
                go_roundw
                case rel => exact ⟨q + 1, by omega, by go_num, by rw [HS.out]; exact HN.out, Below.setCell hKd (Nat.le_refl _) _⟩
                case measure => simp [intOf]; omega
              · obtain rfl : q = n := by omega
                have hce := hO.cell (ln + liar) hnn1
                have HF := Lib.hid (HFND.out x)
                have CK := Lib.hid (CKP.out x wd.heap.size nn wr _ hO)
                have HO2 := Lib.hid hO
                have HLEN := Lib.hid hO.len
                generalize hz : (slA q liar x q).getD (ln + liar) 0 = z at *
                generalize keepD (q - 1) (ordD q liar order (slA q liar x q)) order liar = kp at *
                clear hO hz
                cases e1 : (z == 0)
                · have HNX : Hid (ansI q order liar = finS q liar order (P - (x + 1)) (x + 1)) := Lib.hid (by rw [HA.out, HST.out, HF.out, e1]; rfl)
                  go_wp2
                  go_roundw
                  case rel => exact ⟨x + 1, by omega, by go_num, HNX, hK.step hKd⟩
                  case measure => simp [intOf]; omega
                · go_wp2_with fail
                  refine CK.out.mono ?_
                  rintro e w4 ⟨rfl, hk4⟩
                  cases e2 : kp
                  · have HFI : Hid (ansI q order liar = (true, slA q liar x q)) := Lib.hid (by rw [HA.out, HST.out, HF.out, e1, e2]; rfl)
                    have HO4 := Lib.hid ((HO2.out.mono (lo' := w.heap.size) hK.size).keeps hk4)
                    go_wp2
                    refine bodyPost_ret (v := .tuple #[.slice (some ⟨wd.heap.size, 0, none⟩) nn nn, .bool true]) (by simp [results, Try.results19, go_sem]) rfl ?_
                    rw [HFI.out]
                    refine ⟨some ⟨wd.heap.size, 0, none⟩, nn, ?_, ?_, hK.step (hKd.step hk4)⟩
                    · rw [HLEN.out]
                    · show OwnInts w4 w.heap.size _ (slA q liar x q).length nn (slA q liar x q)
                      rw [HLEN.out]
                      exact HO4.out
                  · have HNX : Hid (ansI q order liar = finS q liar order (P - (x + 1)) (x + 1)) := Lib.hid (by rw [HA.out, HST.out, HF.out, e1, e2]; rfl)
                    go_wp2
                    go_roundw
                    case rel => exact ⟨x + 1, by omega, by go_num, HNX, hK.step (hKd.step hk4)⟩
                    case measure => simp [intOf]; omega
          · have HNX : Hid (ansI n order liar = (false, [])) := Lib.hid (by rw [HA.out, show 2 ^ n - x = 0 by omega]; rfl)
            generalize 2 ^ n = P at *
            have hxi : ¬ ((x : Int) < P) := by omega
            go_wp2_with fail
            refine (CPW.out _).mono ?_
            rintro e w2 ⟨rfl, rfl⟩
            go_wp2
            refine bodyPost_ret (v := .tuple #[.slice Option.none 0 0, .bool false]) (by simp [results, Try.results19, go_sem]) rfl (BrkAns.none HNX.out hK)
end Go.Proofs.Ytepgogaoppdllaa
