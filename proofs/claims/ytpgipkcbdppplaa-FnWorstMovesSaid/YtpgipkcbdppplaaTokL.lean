/-
  impl.WorstMoves at states that may be looked at, and at others. Conditions: lengths below 2^63.
-/
import Derived.Test.YtpgipkcbdppplaaTokK
namespace Go.Proofs.Ytpgipkcbdppplaa
set_option linter.unusedVariables false
open Go.RowKit

theorem Two.toKeeps {b1 b2 : Nat} {w w1 w2 : World} (h : Keeps w w1) (t : Two b1 b2 w1 w2) (h1 : w.heap.size ≤ b1) (h2 : w.heap.size ≤ b2) : Keeps w w2 :=
  ⟨t.os.trans h.os, t.tape.trans h.tape, t.output.trans h.output, Nat.le_trans h.size t.size, fun i hi => (t.block i (Nat.lt_of_lt_of_le hi h.size) (by omega) (by omega)).trans (h.block i hi)⟩
theorem worstMoves_yes (k n c : Nat) (a : Option Addr) (s : Nat → Nat) (f : Nat → Int) (w : World) (hf : Sol k n f) (hT : TokS k n s) (hN : k ^ n ≤ 1024) (hI : Ints w a n (nf s)) (hok : tokOkB k n (nf s) = true) :
    Calls Try.prog 11 #[.int .i64 k, .slice a n c] w fun e w' => ((0 ≤ f (codeN k s n) ∧ e = .returned (.tuple #[.int .i64 (f (codeN k s n)), .bool true])) ∨ (f (codeN k s n) = -1 ∧ e = .returned (.tuple #[.int .i64 0, .bool false]))) ∧ Keeps w w' := by
  have HI := Lib.hid hI
  have HT := Lib.hid hT
  have HF := Lib.hid hf
  have HOK := Lib.hid hok
  have HN := Lib.hid hN
  have hn5 := hT.n5
  have hk5 := hT.k5
  have hni : ¬ (1024 : Int) < ((k ^ n : Nat) : Int) := by omega
  clear hI hT hf hok hN
  go_enter Try.func11, Try.ntmps11
  go_wp2_with fail
  refine (validTokens_any k a n c (nf s) w (by omega) HI.out).mono ?_
  rintro e w1 ⟨rfl, hk1⟩
  rw [HOK.out]
  have HK1 := Lib.hid hk1
  clear hk1
  go_wp2_with fail
  refine (ipower_any k n _ hk5 hn5).mono ?_
  rintro e w2 ⟨rfl, rfl⟩
  obtain ⟨pw, hpw⟩ : ∃ pw : Int, pw = ((k ^ n : Nat) : Int) := ⟨_, rfl⟩
  rw [← hpw] at hni ⊢
  clear hpw
  go_wp2_with fail
  refine (worstOf_any k w1).mono ?_
  rintro e w2 ⟨bw, rfl, hws, hbw, hk2⟩
  have HK2 := Lib.hid hk2
  have HWS := Lib.hid (hws (k ^ n) f)
  clear hk2 hws
  go_wp2_with fail
  refine (from_any k n bw w1.heap.size (w1.heap.size + 1) f HF.out (k ^ n) c (fun _ => False) s a w2 HT.out ((HI.out.keeps HK1.out).keeps HK2.out) HWS.out (Free.start _ _) (fun y hy => hy.elim)).mono ?_
  rintro e w3 ⟨htw, ⟨h0, rfl, -⟩ | ⟨h0, rfl⟩⟩
  · have HTW := Lib.hid htw
    have H0 := Lib.hid h0
    clear htw h0
    go_wp2_with fail
    go_ret2
    exact ⟨.inl ⟨H0.out, rfl⟩, HK1.out.step (HTW.out.toKeeps HK2.out (Nat.le_refl _) (by omega))⟩
  · have HTW := Lib.hid htw
    have H0 := Lib.hid h0
    clear htw h0
    go_wp2_with fail
    go_ret2
    exact ⟨.inr ⟨H0.out, rfl⟩, HK1.out.step (HTW.out.toKeeps HK2.out (Nat.le_refl _) (by omega))⟩
theorem worstMoves_no (k : Int) (a : Option Addr) (n c : Nat) (x : Nat → Int) (w : World) (hn : n ≤ 9223372036854775807) (hI : Ints w a n x) (h : (tokOkB k n x && decide (k.toNat ^ n ≤ 1024)) = false) :
    Calls Try.prog 11 #[.int .i64 k, .slice a n c] w fun e w' => e = .returned (.tuple #[.int .i64 0, .bool false]) ∧ Keeps w w' := by
  have HI := Lib.hid hI
  clear hI
  cases hok : tokOkB k n x
  · have HOK := Lib.hid hok
    clear hok h
    go_enter Try.func11, Try.ntmps11
    go_wp2_with fail
    refine (validTokens_any k a n c x w hn HI.out).mono ?_
    rintro e w1 ⟨rfl, hk1⟩
    rw [HOK.out]
    have HK1 := Lib.hid hk1
    clear hk1
    go_wp2_with fail
    go_ret2
    exact ⟨rfl, HK1.out⟩
  · rw [hok] at h
    obtain ⟨kk, rfl, hT, _⟩ := tokOk_true hok
    have HOK := Lib.hid hok
    have hn5 := hT.n5
    have hk5 := hT.k5
    simp only [Int.toNat_natCast, Bool.true_and, decide_eq_false_iff_not] at h
    have hni : (1024 : Int) < ((kk ^ n : Nat) : Int) := by omega
    clear hok h hT
    go_enter Try.func11, Try.ntmps11
    go_wp2_with fail
    refine (validTokens_any kk a n c x w hn HI.out).mono ?_
    rintro e w1 ⟨rfl, hk1⟩
    rw [HOK.out]
    have HK1 := Lib.hid hk1
    clear hk1
    go_wp2_with fail
    refine (ipower_any kk n _ hk5 hn5).mono ?_
    rintro e w2 ⟨rfl, rfl⟩
    obtain ⟨pw, hpw⟩ : ∃ pw : Int, pw = ((kk ^ n : Nat) : Int) := ⟨_, rfl⟩
    rw [← hpw] at hni ⊢
    clear hpw
    go_wp2_with fail
    go_ret2
    exact ⟨rfl, HK1.out⟩
end Go.Proofs.Ytpgipkcbdppplaa
