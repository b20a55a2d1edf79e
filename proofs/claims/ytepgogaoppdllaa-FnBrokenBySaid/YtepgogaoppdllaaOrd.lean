/-
  What generals do: plain functions, and the contracts of orders, the program's and the reference's. Condition: at most five generals, words 0 or 1.
-/
import Derived.Test.YtepgogaoppdllaaSeenAfter
import Derived.Test.YtepgogaoppdllaaDec
namespace Go.Proofs.Ytepgogaoppdllaa
open Go.RowKit

/-- What p tells q: t, or a lie. -/
def toldF (n liar : Nat) (ly : Nat → Int) (p q : Nat) (t : Int) : Int := if p = liar then ly (p * n + q) else t
/-- What q is told first. -/
def firstF (n liar : Nat) (ly : Nat → Int) (order : Int) (q : Nat) : Int := toldF n liar ly 0 q order
/-- The ones that q hears of the first k others. -/
def onesF (n liar : Nat) (ly : Nat → Int) (order : Int) (q : Nat) : Nat → Int
  | 0 => firstF n liar ly order q
  | k + 1 => if k + 1 = q then onesF n liar ly order q k else onesF n liar ly order q k + toldF n liar ly (k + 1) q (firstF n liar ly order (k + 1))
/-- What q does. -/
def ordF (n liar : Nat) (ly : Nat → Int) (order : Int) (q : Nat) : Int := if q = liar then -1 else if 2 * onesF n liar ly order q (n - 1) > (n : Int) - 1 then 1 else 0
theorem told_bit (n liar : Nat) (ly : Nat → Int) (h : ∀ i, i < n * n → 0 ≤ ly i ∧ ly i ≤ 1) (p q : Nat) (t : Int) (hp : p < n) (hq : q < n) (ht : 0 ≤ t ∧ t ≤ 1) : 0 ≤ toldF n liar ly p q t ∧ toldF n liar ly p q t ≤ 1 := by
  unfold toldF
  split
  · refine h _ ?_
    have : p * n + n ≤ n * n := by rw [← Nat.succ_mul]; exact Nat.mul_le_mul_right n hp
    omega
  · exact ht
theorem ones_le (n liar : Nat) (ly : Nat → Int) (h : ∀ i, i < n * n → 0 ≤ ly i ∧ ly i ≤ 1) (order : Int) (ho : 0 ≤ order ∧ order ≤ 1) (q : Nat) (hq : q < n) : ∀ k, k < n → 0 ≤ onesF n liar ly order q k ∧ onesF n liar ly order q k ≤ k + 1
  | 0, hk => by have := told_bit n liar ly h 0 q order hk hq ho; simpa [onesF, firstF] using this
  | k + 1, hk => by
    have ih := ones_le n liar ly h order ho q hq k (by omega)
    have h1 := told_bit n liar ly h 0 (k + 1) order (by omega) hk ho
    have h2 := told_bit n liar ly h (k + 1) q (firstF n liar ly order (k + 1)) hk hq h1
    simp only [onesF]
    split <;> omega
theorem idx_lt {p q n : Nat} (hp : p < n) (hq : q < n) : p * n + q < n * n := by
  have : p * n + n ≤ n * n := by rw [← Nat.succ_mul]; exact Nat.mul_le_mul_right n hp
  omega
theorem prod_le {p n : Nat} (hp : p < n) (hn : n ≤ 5) : p * n ≤ 25 := Nat.le_trans (Nat.mul_le_mul (show p ≤ 5 by omega) hn) (by omega)

set_option maxHeartbeats 1000000 in
theorem stold_any (n liar p q c : Nat) (t : Int) (L : Option Addr) (ly : Nat → Int) (w : World) (hn : n ≤ 5) (hp : p < n) (hq : q < n) (hI : Ints w L (n * n) ly) :
    Calls Try.prog 89 #[.int .i64 n, .int .i64 liar, .slice L (n * n) c, .int .i64 p, .int .i64 q, .int .i64 t] w fun e w' => e = .returned (.int .i64 (toldF n liar ly p q t)) ∧ w = w' := by
  by_cases h : p = liar
  · have HV : Hid (toldF n liar ly p q t = ly (p * n + q)) := Lib.hid (by unfold toldF; rw [if_pos h])
    have hpl : ((p : Int) == (liar : Int)) = true := by simp; omega
    obtain ⟨d, off, rfl, hc⟩ := hI _ (idx_lt hp hq)
    have hlt := idx_lt hp hq
    have hpn := prod_le hp hn
    have HM : Hid ((p : Int) * (n : Int) = ((p * n : Nat) : Int)) := Lib.hid (by simp)
    have W1 : IntKind.i64.wrap ((p : Int) * (n : Int)) = ((p * n : Nat) : Int) := by rw [IntKind.wrap_i64, HM.out]; omega
    generalize p * n = pn at *
    generalize n * n = nn at *
    have hlt' : (pn : Int) + q < nn := by omega
    have HCI : Hid (((pn + q : Nat) : Int) = (pn : Int) + q) := Lib.hid (by omega)
    clear hI h
    go_enter Try.func89, Try.ntmps89
    go_wp2
    go_ret
    exact ⟨ret_int HV.out.symm, rfl⟩
  · have HV : Hid (toldF n liar ly p q t = t) := Lib.hid (by unfold toldF; rw [if_neg h])
    have hpl : ((p : Int) == (liar : Int)) = false := by simp; omega
    clear hI h
    go_enter Try.func89, Try.ntmps89
    go_wp2
    go_ret
    exact ⟨ret_int HV.out.symm, rfl⟩
set_option maxHeartbeats 1000000 in
theorem itold_any (b6 b7 b4 n liar p q c : Nat) (t : Int) (L : Option Addr) (ly : Nat → Int) (w : World) (hn : n ≤ 5) (hp : p < n) (hq : q < n) (hI : Ints w L (n * n) ly)
    (h6 : w.cell? ⟨b6, 0, none⟩ = some (.int .i64 liar)) (h7 : w.cell? ⟨b7, 0, none⟩ = some (.slice L (n * n) c)) (h4 : w.cell? ⟨b4, 0, none⟩ = some (.int .i64 n)) :
    Calls Try.prog 82 #[.int .i64 p, .int .i64 q, .int .i64 t, .pointer (some ⟨b6, 0, none⟩), .pointer (some ⟨b7, 0, none⟩), .pointer (some ⟨b4, 0, none⟩)] w fun e w' => e = .returned (.int .i64 (toldF n liar ly p q t)) ∧ w = w' := by
  by_cases h : p = liar
  · have HV : Hid (toldF n liar ly p q t = ly (p * n + q)) := Lib.hid (by unfold toldF; rw [if_pos h])
    have hpl : ((p : Int) == (liar : Int)) = true := by simp; omega
    obtain ⟨d, off, rfl, hc⟩ := hI _ (idx_lt hp hq)
    have hlt := idx_lt hp hq
    have hpn := prod_le hp hn
    have HM : Hid ((p : Int) * (n : Int) = ((p * n : Nat) : Int)) := Lib.hid (by simp)
    have W1 : IntKind.i64.wrap ((p : Int) * (n : Int)) = ((p * n : Nat) : Int) := by rw [IntKind.wrap_i64, HM.out]; omega
    generalize p * n = pn at *
    generalize n * n = nn at *
    have hlt' : (pn : Int) + q < nn := by omega
    clear hI h
    go_enter Try.func82, Try.ntmps82
    go_wp2
    go_ret
    exact ⟨ret_int HV.out.symm, rfl⟩
  · have HV : Hid (toldF n liar ly p q t = t) := Lib.hid (by unfold toldF; rw [if_neg h])
    have hpl : ((p : Int) == (liar : Int)) = false := by simp; omega
    clear hI h
    go_enter Try.func82, Try.ntmps82
    go_wp2
    go_ret
    exact ⟨ret_int HV.out.symm, rfl⟩
end Go.Proofs.Ytepgogaoppdllaa
