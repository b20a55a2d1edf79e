/-
  Slices of strings in memory; number of the reference. Conditions: lengths at most 2^40.
-/
import Derived.Test.YtlniogfinofakaaGreatDoorRuAj
import Derived.Test.YtlniogfinofakaaGreatDoorRuAd
import Derived.Lib.ItoaLen
namespace Go.Proofs.YtlniogfinofakaaGreatDoor
set_option maxRecDepth 100000
open Go.RowKit Go.Lib
set_option linter.unusedVariables false

def Strs (w : World) (a : Option Addr) (n : Nat) (f : Nat → ByteArray) : Prop :=
  ∀ i, i < n → ∃ d off, a = some ⟨d, off, none⟩ ∧ w.cell? ⟨d, off + i, none⟩ = some (.string (f i))
theorem Strs.keeps {w w' : World} {a : Option Addr} {n : Nat} {f : Nat → ByteArray} (h : Strs w a n f) (k : Keeps w w') : Strs w' a n f := fun i hi => by
  obtain ⟨d, off, e, hc⟩ := h i hi
  exact ⟨d, off, e, cell_keeps k hc⟩
def OwnStrs (w : World) (lo : Nat) (A : Option Addr) (n c : Nat) (l : List ByteArray) : Prop := w.ownsRow lo 9 1 (.slice A n c) n (l.map Value.string)
theorem OwnStrs.len {w : World} {lo : Nat} {A : Option Addr} {n c : Nat} {l : List ByteArray} (h : OwnStrs w lo A n c l) : l.length = n := by have := h.1; simpa using this
theorem OwnStrs.keeps {w w' : World} {lo : Nat} {A : Option Addr} {n c : Nat} {l : List ByteArray} (h : OwnStrs w lo A n c l) (k : Keeps w w') : OwnStrs w' lo A n c l := own_keeps h k
theorem OwnStrs.made (w : World) (lo : Nat) (h : lo ≤ w.heap.size) : OwnStrs (w.alloc (.cells #[] 9)) lo (some ⟨w.heap.size, 0, none⟩) 0 0 [] := World.ownsRow_made w #[] 0 h (by unfold maxLen; omega) rfl
theorem OwnStrs.strs {w : World} {lo : Nat} {A : Option Addr} {n c : Nat} {l : List ByteArray} (h : OwnStrs w lo A n c l) : Strs w A n (fun i => l.getD i ByteArray.empty) := by
  intro i hi
  have hl := h.len
  rcases h.2 with ⟨e, h0⟩ | ⟨g, cap, cur, e, rest⟩
  · omega
  · cases e
    refine ⟨g, 0, rfl, ?_⟩
    rw [Nat.zero_add, h.cellAt i (by omega)]
    simp [List.getElem?_eq_getElem (show i < l.length by omega)]
theorem info_str : (Tryz.prog.info? 9).map (fun i => (i.zero, i.size, i.bytes)) = some (some (.string ⟨#[]⟩), 1, 16) := by kernel_rfl
theorem wp_app_str {ops : Array Oper} {rest : List Oper} {o : Oper} {a : Act} {Q : Exit → Act → World → Prop}
    (hgd : o.guard = none) (s y : Operand) (ho : o.op = .call { callee := .builtin .append, args := #[s, y], argTypes := #[22, 22] })
    (lo : Nat) (A : Option Addr) (n c : Nat) (l : List ByteArray) (w : World) (hs : a.eval s = .slice A n c) (hown : OwnStrs w lo A n c l)
    (x : ByteArray) (hx : a.eval y = .slice (some ⟨w.heap.size, 0, none⟩) 1 1) (hn : n + 1 ≤ 1099511627776) (hbase : lo ≤ w.heap.size)
    (h : ∀ (g c' : Nat) (w' : World), OwnStrs w' lo (some ⟨g, 0, none⟩) (n + 1) c' (l ++ [x]) → w.grownBy w' (A.map (·.block)) → wpList Tryz.prog ops Q rest (a.put o.dst (.slice (some ⟨g, 0, none⟩) (n + 1) c')) w') :
    wpList Tryz.prog ops Q (o :: rest) a (w.alloc (.cells #[.string x] 9)) :=
  wp_app Tryz.underlying22 info_str rfl (by omega) hgd s y ho lo A n c _ w hs hown _ rfl hx hn hbase (fun g c' w' h1 h2 => h g c' w' (by unfold OwnStrs; rw [List.map_append]; exact h1) h2)
theorem OwnStrs.keepsAll {w0 w w' : World} {lo : Nat} {A : Option Addr} {n c : Nat} {l : List ByteArray} (h : OwnStrs w lo A n c l) (hk : Keeps w0 w) (hb : w0.heap.size ≤ lo) (k : w.grownBy w' (A.map (·.block))) : Keeps w0 w' := hk.grown h hb k
theorem digit_piece : ∀ n : Fin 10, ((⟨#[48, 49, 50, 51, 52, 53, 54, 55, 56, 57]⟩ : ByteArray).extract n.val (n.val + 1)).data = #[UInt8.ofNat (48 + n.val)] := by decide +kernel
theorem digit_at {n : Nat} (h : n < 10) : (⟨#[48, 49, 50, 51, 52, 53, 54, 55, 56, 57]⟩ : ByteArray).extract n (n + 1) = ⟨(decDigits n).toArray⟩ := by
  rw [decDigits_one h]
  exact ByteArray.ext (digit_piece ⟨n, h⟩)
theorem str_add (a b : List UInt8) : (⟨a.toArray⟩ : ByteArray) ++ ⟨b.toArray⟩ = ⟨(a ++ b).toArray⟩ := by
  apply ByteArray.ext
  simp
theorem quo_facts (n : Nat) : ((n : Int)) / 10 = ((n / 10 : Nat) : Int) ∧ Int.tdiv (n : Int) 10 = ((n / 10 : Nat) : Int) ∧ ((n : Int)) % 10 = ((n % 10 : Nat) : Int) ∧ Int.tmod (n : Int) 10 = ((n % 10 : Nat) : Int) := by
  refine ⟨by omega, ?_, by omega, ?_⟩
  · rw [Int.tdiv_eq_ediv_of_nonneg (by omega)]; omega
  · rw [Int.tmod_eq_emod_of_nonneg (by omega)]; omega
set_option maxHeartbeats 2000000 in
theorem number_any : ∀ (f n : Nat) (w : World), n ≤ f → n < 1000000000000 →
    Calls Tryz.prog 26 #[.int .i64 n] w fun e w' => e = .returned (.string ⟨(decDigits n).toArray⟩) ∧ w = w' := by
  intro f
  induction f with
  | zero => 
    intro n w hf hn
    obtain rfl : n = 0 := by omega
    have HD := Lib.hid (digit_at (n := 0) (by omega))
    go_enter Tryz.func26, Tryz.ntmps26
    go_wp2_with fail
    go_ret
    exact ⟨by rw [← HD.out]; rfl, rfl⟩
  | succ f ih => 
    intro n w hf hn
    by_cases h10 : n < 10
    · have hi : (n : Int) < 10 := by omega
      have HD := Lib.hid (digit_at h10)
      go_enter Tryz.func26, Tryz.ntmps26
      go_wp2_with fail
      go_ret
      exact ⟨by rw [← HD.out]; rfl, rfl⟩
    · have hi : ¬ (n : Int) < 10 := by omega
      have C1 := Lib.hid (fun w => ih (n / 10) w (by omega) (by omega))
      have C2 := Lib.hid (fun w => ih (n % 10) w (by omega) (by omega))
      have HD : Hid (decDigits n = decDigits (n / 10) ++ decDigits (n % 10)) := Lib.hid (by
        rw [decDigits_one (i := n % 10) (by omega)]
        rw [decDigits, dif_neg h10])
      have hs1 : (decDigits (n / 10)).length ≤ 20 := by rw [decDigits_length]; exact nDigits_le20 _ (by omega)
      have hs2 : (decDigits (n % 10)).length ≤ 20 := by rw [decDigits_length]; exact nDigits_le20 _ (by omega)
      obtain ⟨m1, m2, m3, m4⟩ := quo_facts n
      generalize n / 10 = q at *
      generalize n % 10 = r at *
      clear ih h10
      go_enter Tryz.func26, Tryz.ntmps26
      go_wp2_with fail
      refine (C1.out _).mono ?_
      rintro e w1 ⟨rfl, rfl⟩
      go_wp2_with fail
      refine (C2.out _).mono ?_
      rintro e w1 ⟨rfl, rfl⟩
      go_wp2_with fail
      go_ret
      refine ⟨?_, rfl⟩
      rw [HD.out, ← str_add]
      rfl
end Go.Proofs.YtlniogfinofakaaGreatDoor
/-
  The contract of splitAt of the reference. Condition: texts shorter than 2^40 bytes.
-/
namespace Go.Proofs.YtlniogfinofakaaGreatDoor
set_option maxRecDepth 100000
open Go.RowKit Go.Lib
set_option linter.unusedVariables false

/-- A piece of a text, as bytes. -/
def pc (s : ByteArray) (i j : Nat) : List UInt8 := (s.data.toList.drop i).take (j - i)
theorem pc_extract (s : ByteArray) (i j : Nat) : (s.extract i j).data.toList = pc s i j := by
  rw [extract_eq]
  rfl
theorem drop_at (s : ByteArray) {i : Nat} (h : i < s.size) : s.data.toList.drop i = s[i] :: s.data.toList.drop (i + 1) := by
  have h' : i < s.data.toList.length := by simpa using h
  rw [List.drop_eq_getElem_cons h']
  congr 1
theorem pc_next (s : ByteArray) {f i : Nat} (hf : f ≤ i) (h : i < s.size) : pc s f (i + 1) = pc s f i ++ [s[i]] := by
  have h' : i < s.data.toList.length := by simpa using h
  unfold pc
  rw [show i + 1 - f = (i - f) + 1 by omega, List.take_add_one, List.getElem?_drop, show f + (i - f) = i by omega, List.getElem?_eq_getElem h']
  congr 1
theorem byte_ne {a b : UInt8} (h : ¬ a = b) : (((a.toNat : Nat) : Int) == ((b.toNat : Nat) : Int)) = false := by
  rw [beq_eq_false_iff_ne]
  intro e
  exact h (UInt8.toNat_inj.1 (by omega))
theorem byte_eq {a b : UInt8} (h : a = b) : (((a.toNat : Nat) : Int) == ((b.toNat : Nat) : Int)) = true := by rw [h]; simp
set_option maxHeartbeats 2000000 in
theorem splitAt_any (s : ByteArray) (c : UInt8) (w : World) (hs : s.size ≤ 1099511627775) :
    Calls Tryz.prog 28 #[.string s, .int .u8 c.toNat] w fun e w' => ∃ (g c' : Nat) (l : List ByteArray), e = .returned (.slice (some ⟨g, 0, none⟩) l.length c') ∧ OwnStrs w' w.heap.size (some ⟨g, 0, none⟩) l.length c' l ∧ l.map (·.data.toList) = splitA c [] s.data.toList ∧ Keeps w w' := by
  have HO0 := Lib.hid (OwnStrs.made w w.heap.size (Nat.le_refl _))
  go_enter Tryz.func28, Tryz.ntmps28
  go_wp2_with fail
  go_loopw [5, 6, 7] (fun o p q wr => ∃ (g m c' i f : Nat) (l : List ByteArray), f ≤ i ∧ i ≤ s.size ∧ m ≤ i ∧ o = .slice (some ⟨g, 0, none⟩) m c' ∧ p = .int .i64 f ∧ q = .int .i64 i ∧ Hid (OwnStrs wr w.heap.size (some ⟨g, 0, none⟩) m c' l) ∧ Hid (splitA c [] s.data.toList = l.map (·.data.toList) ++ splitA c (pc s f i) (s.data.toList.drop i)) ∧ Hid (Keeps w wr)) (fun _ _ q _ => s.size - (intOf q).toNat)
  case atStart => exact ⟨w.heap.size, 0, 0, 0, 0, [], by omega, by omega, by omega, rfl, rfl, rfl, HO0, Lib.hid (by simp [pc]), Lib.hid (Keeps.alloc _ _)⟩
  case round =>
    clear HO0
    obtain ⟨g, m, c', i, f, l, hfi, hi, hmi, rfl, rfl, rfl, HO, HP, HK⟩ := hrel
    by_cases hlt : i < s.size
    · have hii : (i : Int) < s.size := by omega
      have HD := Lib.hid (drop_at s hlt)
      have HPN := Lib.hid (pc_next s hfi hlt)
      have hsz := HK.out.size
      by_cases hb : s[i] = c
      · have hbb := byte_eq hb
        have HP2 : Hid (splitA c [] s.data.toList = (l ++ [s.extract f i]).map (·.data.toList) ++ splitA c (pc s (i + 1) (i + 1)) (s.data.toList.drop (i + 1))) := Lib.hid (by
          rw [HP.out, HD.out, splitA, if_pos hb, List.map_append]
          simp [pc])
        clear hb
        go_wp2_with (first | (at_builtin; refine wp_app_str rfl _ _ rfl w.heap.size (some ⟨g, 0, none⟩) m c' l _ rfl HO.out _ rfl (by omega) hsz ?_; intro g6 c6 w6 hO6 hg6))
        have HK6 := Lib.hid (HO.out.keepsAll HK.out (Nat.le_refl _) hg6)
        have HO6 := Lib.hid hO6
        clear hO6 hg6
        go_roundw
        case rel => exact ⟨g6, m + 1, c6, i + 1, i + 1, _, by omega, by omega, by omega, rfl, by go_num, by go_num, HO6, HP2, HK6⟩
        case measure => simp [intOf]; omega
      · have hbb := byte_ne hb
        have HP2 : Hid (splitA c [] s.data.toList = l.map (·.data.toList) ++ splitA c (pc s f (i + 1)) (s.data.toList.drop (i + 1))) := Lib.hid (by
          rw [HP.out, HD.out, splitA, if_neg hb, HPN.out])
        clear hb
        go_wp2_with fail
        go_roundw
        case rel => exact ⟨g, m, c', i + 1, f, l, by omega, by omega, by omega, rfl, rfl, by go_num, HO, HP2, HK⟩
        case measure => simp [intOf]; omega
    · obtain rfl : i = s.size := by omega
      have hsz := HK.out.size
      have HP2 : Hid ((l ++ [s.extract f s.size]).map (·.data.toList) = splitA c [] s.data.toList) := Lib.hid (by
        rw [HP.out, List.map_append, List.drop_eq_nil_of_le (by simp), splitA]
        simp [pc])
      go_wp2_with (first | (at_builtin; refine wp_app_str rfl _ _ rfl w.heap.size (some ⟨g, 0, none⟩) m c' l _ rfl HO.out _ rfl (by omega) hsz ?_; intro g6 c6 w6 hO6 hg6))
      have HK6 := Lib.hid (HO.out.keepsAll HK.out (Nat.le_refl _) hg6)
      have HO6 := Lib.hid hO6
      have hl := hO6.len
      clear hO6 hg6
      go_ret
      exact ⟨g6, c6, _, by rw [hl]; rfl, by rw [hl]; exact HO6.out, HP2.out, HK6.out⟩
end Go.Proofs.YtlniogfinofakaaGreatDoor
