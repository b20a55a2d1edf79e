/-
  The drawn name of rules, the reference's RulesOf, both at the empty name, and equalRules of the laws. Conditions: bounds.
-/
import Derived.Test.YtaejakejnllimaaSomeRul
import Derived.Test.YtaejakejnllimaaRulesN
import Derived.Test.YtaejakejnllimaaLawQ
import Derived.Test.YtaejakejnllimaaEq
namespace Go.Proofs.Ytaejakejnllimaa
set_option linter.unusedVariables false
set_option maxRecDepth 100000
open Go.RowKit

theorem seven_at (i : Nat) (hi : i < 7) (v : Value) (hv : v = [Value.string ⟨#[115, 111, 109, 101]⟩, Value.string ⟨#[116, 104, 114, 101, 101]⟩, Value.string ⟨#[109, 111, 115, 116]⟩, Value.string ⟨#[111, 100, 100]⟩, Value.string ⟨#[109, 111, 115, 116]⟩, Value.string ⟨#[111, 100, 100]⟩, Value.string ⟨#[]⟩].getD i undef) : v = .string ⟨#[115, 111, 109, 101]⟩ ∨ v = .string ⟨#[116, 104, 114, 101, 101]⟩ ∨ v = .string ⟨#[109, 111, 115, 116]⟩ ∨ v = .string ⟨#[111, 100, 100]⟩ ∨ v = .string ⟨#[]⟩ := by
  subst hv
  match i, hi with
  | 0, _ => exact .inl rfl
  | 1, _ => exact .inr (.inl rfl)
  | 2, _ => exact .inr (.inr (.inl rfl))
  | 3, _ => exact .inr (.inr (.inr (.inl rfl)))
  | 4, _ => exact .inr (.inr (.inl rfl))
  | 5, _ => exact .inr (.inr (.inr (.inl rfl)))
  | 6, _ => exact .inr (.inr (.inr (.inr rfl)))
set_option maxHeartbeats 2000000 in
theorem drawRulesOf_any (a : Option Addr) (n c : Nat) (w : World) (hB : Bytes w w.heap.size a n) (hn : n ≤ 1099511627776) (hc : n ≤ c) (hc2 : c ≤ 9223372036854775807) :
    Calls Try.prog 17 #[.slice a n c] w fun e w' => ∃ v, e = .returned v ∧ (v = .string ⟨#[115, 111, 109, 101]⟩ ∨ v = .string ⟨#[116, 104, 114, 101, 101]⟩ ∨ v = .string ⟨#[109, 111, 115, 116]⟩ ∨ v = .string ⟨#[111, 100, 100]⟩ ∨ v = .string ⟨#[]⟩) ∧ Keeps w w' := by
  have HB := Lib.hid hB
  clear hB
  go_enter Try.func17, Try.ntmps17
  go_wp2_with fail
  refine (newReader_any a n c w HB.out hn hc hc2).mono ?_
  rintro e w2 ⟨b, rfl, hR2, hb2, hk2⟩
  have HRD := Lib.hid hR2
  have HK2 := Lib.hid hk2
  have HLO := Lib.hid hb2
  have hbz := hR2.lt
  clear hR2 hk2 hb2
  go_wp2_with fail
  refine (of_any b 0 w2.heap.size 7 7 [Value.string ⟨#[115, 111, 109, 101]⟩, Value.string ⟨#[116, 104, 114, 101, 101]⟩, Value.string ⟨#[109, 111, 115, 116]⟩, Value.string ⟨#[111, 100, 100]⟩, Value.string ⟨#[109, 111, 115, 116]⟩, Value.string ⟨#[111, 100, 100]⟩, Value.string ⟨#[]⟩] _ (HRD.out.gro (Keeps.alloc _ _)) (by omega) (by omega) (by omega) rfl (fun i hi => ?_) (fun i hi => ?_) (by omega)).mono ?_
  · rw [(Blk.new w2 _ _).cell i]
    match i, hi with
    | 0, _ => rfl
    | 1, _ => rfl
    | 2, _ => rfl
    | 3, _ => rfl
    | 4, _ => rfl
    | 5, _ => rfl
    | 6, _ => rfl
  · rcases seven_at i hi _ rfl with e | e | e | e | e <;> exact ⟨_, e⟩
  rintro e w3 ⟨i, hi, rfl, hR3, hG3⟩
  have hv := seven_at i hi _ rfl
  have hK3 : Keeps w w3 := hG3.keeps (HK2.out.step (Keeps.alloc w2 _)) (by have := HLO.out; omega)
  generalize [Value.string ⟨#[115, 111, 109, 101]⟩, Value.string ⟨#[116, 104, 114, 101, 101]⟩, Value.string ⟨#[109, 111, 115, 116]⟩, Value.string ⟨#[111, 100, 100]⟩, Value.string ⟨#[109, 111, 115, 116]⟩, Value.string ⟨#[111, 100, 100]⟩, Value.string ⟨#[]⟩].getD i undef = v at *
  clear HRD HLO HK2 hG3 hR3
  rcases hv with rfl | rfl | rfl | rfl | rfl
  all_goals
    go_wp2
    go_ret
    exact ⟨_, rfl, by simp, hK3⟩

theorem stold_results {a : Act} {W : World} {b : Nat} {v0 v1 v2 : Value} {v : Value} (h2 : a.tmps[2]? = some (.pointer (some ⟨b, 0, none⟩))) (h3 : a.tmps[3]? = some v) (c0 : W.cell? ⟨b, 0, none⟩ = some v0) (c1 : W.cell? ⟨b, 1, none⟩ = some v1) (c2 : W.cell? ⟨b, 2, none⟩ = some v2) : (results Try.f19 a.tmps).run Try.prog W = .ok (.tuple #[.agg #[v0, v1, v2], v]) W := by
  simp [results, Try.results19, go_sem, c0, c1, c2, h2, h3]
/-- The reference's rules and true. -/
def RulesRef (w : World) (n : Nat) (l : List Int) (f g : Nat → Nat → Int) (e : Ending) (w' : World) : Prop :=
  ∃ (S A B : Option Addr) (rA rB : Nat → Option Addr × Nat × Nat), e = .returned (.tuple #[.agg #[.slice S n n, .slice A n n, .slice B n n], .bool true]) ∧ RulAt w' S n (lsI l) A n rA f B n rB g ∧ (∀ i, i < n → (rA i).2.1 = n) ∧ (∀ i, i < n → (rB i).2.1 = n) ∧ Keeps w w'
set_option maxHeartbeats 2000000 in
theorem sRulesOf_of (v : ByteArray) (n : Nat) (l : List Int) (f g : Nat → Nat → Int) (hC : ∀ w, Calls Try.prog 50 #[.string v] w fun e w' => ∃ (S A B : Option Addr) (rA rB : Nat → Option Addr × Nat × Nat), e = .returned (.tuple #[.agg #[.slice S n n, .slice A n n, .slice B n n], .bool true]) ∧ (∀ W, Same w.heap.size w'.heap.size w' W → RulAt W S n (lsI l) A n rA f B n rB g) ∧ ((∀ i, i < n → (rA i).2.1 = n) ∧ (∀ i, i < n → (rB i).2.1 = n)) ∧ Keeps w w') (w : World) :
    Calls Try.prog 19 #[.string v] w (RulesRef w n l f g) := by
  have HC := Lib.hid hC
  clear hC
  have HB1 := Lib.hid (Blk.new w #[.slice none 0 0, .slice none 0 0, .slice none 0 0] 26)
  have HK1 := Lib.hid (Keeps.alloc w (.cells #[.slice none 0 0, .slice none 0 0, .slice none 0 0] 26))
  go_enter Try.func19, Try.ntmps19
  go_wp2_with fail
  generalize w.alloc (.cells #[.slice none 0 0, .slice none 0 0, .slice none 0 0] 26) = w1 at *
  refine (HC.out w1).mono ?_
  rintro e w3 ⟨S, A, B, rA, rB, rfl, hat, hl, hk3⟩
  have hz1 : w.heap.size < w1.heap.size := HB1.out.lt
  have HB3 := Lib.hid (HB1.out.keeps hk3)
  have HAT := Lib.hid hat
  have HL := Lib.hid hl
  have HK3 := Lib.hid (HK1.out.step hk3)
  have hwz := HB3.out.lt
  have e0 : w3.cell? ⟨w.heap.size, 0, none⟩ = some (.slice none 0 0) := HB3.out.cell 0
  have e1 : w3.cell? ⟨w.heap.size, 1, none⟩ = some (.slice none 0 0) := HB3.out.cell 1
  have e2 : w3.cell? ⟨w.heap.size, 2, none⟩ = some (.slice none 0 0) := HB3.out.cell 2
  have f0 := HB3.out.frozen 0
  have f1 := HB3.out.frozen 1
  have f2 := HB3.out.frozen 2
  clear hat hl hk3 HB1 HK1
  go_wp2
  have y1 := ((HB3.out.set 0 (.slice S n n)).set 1 (.slice A n n)).set 2 (.slice B n n)
  have c0 : (((w3.setCell ⟨w.heap.size, 0, none⟩ (.slice S n n)).setCell ⟨w.heap.size, 1, none⟩ (.slice A n n)).setCell ⟨w.heap.size, 2, none⟩ (.slice B n n)).cell? ⟨w.heap.size, 0, none⟩ = some (.slice S n n) := y1.cell 0
  have c1 : (((w3.setCell ⟨w.heap.size, 0, none⟩ (.slice S n n)).setCell ⟨w.heap.size, 1, none⟩ (.slice A n n)).setCell ⟨w.heap.size, 2, none⟩ (.slice B n n)).cell? ⟨w.heap.size, 1, none⟩ = some (.slice A n n) := y1.cell 1
  have c2 : (((w3.setCell ⟨w.heap.size, 0, none⟩ (.slice S n n)).setCell ⟨w.heap.size, 1, none⟩ (.slice A n n)).setCell ⟨w.heap.size, 2, none⟩ (.slice B n n)).cell? ⟨w.heap.size, 2, none⟩ = some (.slice B n n) := y1.cell 2
  have HA9 := Lib.hid (HAT.out (((w3.setCell ⟨w.heap.size, 0, none⟩ (.slice S n n)).setCell ⟨w.heap.size, 1, none⟩ (.slice A n n)).setCell ⟨w.heap.size, 2, none⟩ (.slice B n n)) (fun i a1 a2 => by rw [Below.heap_setCell _ _ _ _ (by simp only; omega), Below.heap_setCell _ _ _ _ (by simp only; omega), Below.heap_setCell _ _ _ _ (by simp only; omega)]))
  have HK9 := Lib.hid (((HK3.out.setCell (p := ⟨w.heap.size, 0, none⟩) (Nat.le_refl _) (.slice S n n)).setCell (p := ⟨w.heap.size, 1, none⟩) (Nat.le_refl _) (.slice A n n)).setCell (p := ⟨w.heap.size, 2, none⟩) (Nat.le_refl _) (.slice B n n))
  clear y1
  generalize (((w3.setCell ⟨w.heap.size, 0, none⟩ (.slice S n n)).setCell ⟨w.heap.size, 1, none⟩ (.slice A n n)).setCell ⟨w.heap.size, 2, none⟩ (.slice B n n)) = W at *
  have key : ∀ a : Act, a.tmps[2]? = some (.pointer (some ⟨w.heap.size, 0, none⟩)) → a.tmps[3]? = some (.bool true) → a.defers = [] → bodyPost Try.prog Try.f19 (RulesRef w n l f g) Exit.ret a W := fun a h2 h3 hd => by
    refine bodyPost_ret (stold_results h2 h3 c0 c1 c2) hd ⟨S, A, B, rA, rB, rfl, HA9.out, HL.out.1, HL.out.2, HK9.out⟩
  exact key _ rfl rfl rfl
theorem srules_results {a : Act} {W : World} {b : Nat} {v0 v1 v2 : Value} {v : Value} (h2 : a.tmps[2]? = some (.pointer (some ⟨b, 0, none⟩))) (h3 : a.tmps[3]? = some v) (c0 : W.cell? ⟨b, 0, none⟩ = some v0) (c1 : W.cell? ⟨b, 1, none⟩ = some v1) (c2 : W.cell? ⟨b, 2, none⟩ = some v2) : (results Try.f50 a.tmps).run Try.prog W = .ok (.tuple #[.agg #[v0, v1, v2], v]) W := by
  simp [results, Try.results50, go_sem, c0, c1, c2, h2, h3]
/-- No rules, and false. -/
def NoRules (w : World) (e : Ending) (w' : World) : Prop := e = .returned (.tuple #[.agg #[.slice none 0 0, .slice none 0 0, .slice none 0 0], .bool false]) ∧ Keeps w w'

theorem srulesOf_none (w : World) : Calls Try.prog 50 #[.string ⟨#[]⟩] w (NoRules w) := by
  have HB1 := Lib.hid (Blk.new w #[.slice none 0 0, .slice none 0 0, .slice none 0 0] 26)
  have HK1 := Lib.hid (Keeps.alloc w (.cells #[.slice none 0 0, .slice none 0 0, .slice none 0 0] 26))
  go_enter Try.func50, Try.ntmps50
  go_upto_region 1 with fail
  generalize w.alloc (.cells #[.slice none 0 0, .slice none 0 0, .slice none 0 0] 26) = w1 at *
  have e0 : w1.cell? ⟨w.heap.size, 0, none⟩ = some (.slice none 0 0) := HB1.out.cell 0
  have f0 := HB1.out.frozen 0
  have e1 : w1.cell? ⟨w.heap.size, 1, none⟩ = some (.slice none 0 0) := HB1.out.cell 1
  have f1 := HB1.out.frozen 1
  have e2 : w1.cell? ⟨w.heap.size, 2, none⟩ = some (.slice none 0 0) := HB1.out.cell 2
  have f2 := HB1.out.frozen 2
  have hwz := HB1.out.lt
  go_wp2
  have HBF : Hid (Blk (((w1.setCell ⟨w.heap.size, 0, none⟩ (.slice none 0 0)).setCell ⟨w.heap.size, 1, none⟩ (.slice none 0 0)).setCell ⟨w.heap.size, 2, none⟩ (.slice none 0 0)) w.heap.size 26 #[.slice none 0 0, .slice none 0 0, .slice none 0 0]) := Lib.hid (((HB1.out.set 0 (.slice none 0 0)).set 1 (.slice none 0 0)).set 2 (.slice none 0 0))
  have HKF := Lib.hid (((HK1.out.setCell (p := ⟨w.heap.size, 0, none⟩) (Nat.le_refl _) (.slice none 0 0)).setCell (p := ⟨w.heap.size, 1, none⟩) (Nat.le_refl _) (.slice none 0 0)).setCell (p := ⟨w.heap.size, 2, none⟩) (Nat.le_refl _) (.slice none 0 0))
  generalize (((w1.setCell ⟨w.heap.size, 0, none⟩ (.slice none 0 0)).setCell ⟨w.heap.size, 1, none⟩ (.slice none 0 0)).setCell ⟨w.heap.size, 2, none⟩ (.slice none 0 0)) = W at *
  have c0 : W.cell? ⟨w.heap.size, 0, none⟩ = some (.slice none 0 0) := HBF.out.cell 0
  have c1 : W.cell? ⟨w.heap.size, 1, none⟩ = some (.slice none 0 0) := HBF.out.cell 1
  have c2 : W.cell? ⟨w.heap.size, 2, none⟩ = some (.slice none 0 0) := HBF.out.cell 2
  have key : ∀ a : Act, a.tmps[2]? = some (.pointer (some ⟨w.heap.size, 0, none⟩)) → a.tmps[3]? = some (.bool false) → a.defers = [] → bodyPost Try.prog Try.f50 (NoRules w) Exit.ret a W := fun a h2 h3 hd => by
    refine bodyPost_ret (srules_results h2 h3 c0 c1 c2) hd ⟨rfl, HKF.out⟩
  exact key _ rfl rfl rfl
theorem sRulesOf_none (w : World) : Calls Try.prog 19 #[.string ⟨#[]⟩] w (NoRules w) := by
  have HB1 := Lib.hid (Blk.new w #[.slice none 0 0, .slice none 0 0, .slice none 0 0] 26)
  have HK1 := Lib.hid (Keeps.alloc w (.cells #[.slice none 0 0, .slice none 0 0, .slice none 0 0] 26))
  go_enter Try.func19, Try.ntmps19
  go_wp2_with fail
  generalize w.alloc (.cells #[.slice none 0 0, .slice none 0 0, .slice none 0 0] 26) = w1 at *
  refine (srulesOf_none w1).mono ?_
  rintro e w3 ⟨rfl, hk3⟩
  have HB3 := Lib.hid (HB1.out.keeps hk3)
  have HK3 := Lib.hid (HK1.out.step hk3)
  have hwz := HB3.out.lt
  clear hk3
  have e0 : w3.cell? ⟨w.heap.size, 0, none⟩ = some (.slice none 0 0) := HB3.out.cell 0
  have f0 := HB3.out.frozen 0
  have e1 : w3.cell? ⟨w.heap.size, 1, none⟩ = some (.slice none 0 0) := HB3.out.cell 1
  have f1 := HB3.out.frozen 1
  have e2 : w3.cell? ⟨w.heap.size, 2, none⟩ = some (.slice none 0 0) := HB3.out.cell 2
  have f2 := HB3.out.frozen 2
  go_wp2
  have HBF : Hid (Blk (((w3.setCell ⟨w.heap.size, 0, none⟩ (.slice none 0 0)).setCell ⟨w.heap.size, 1, none⟩ (.slice none 0 0)).setCell ⟨w.heap.size, 2, none⟩ (.slice none 0 0)) w.heap.size 26 #[.slice none 0 0, .slice none 0 0, .slice none 0 0]) := Lib.hid (((HB3.out.set 0 (.slice none 0 0)).set 1 (.slice none 0 0)).set 2 (.slice none 0 0))
  have HKF := Lib.hid (((HK3.out.setCell (p := ⟨w.heap.size, 0, none⟩) (Nat.le_refl _) (.slice none 0 0)).setCell (p := ⟨w.heap.size, 1, none⟩) (Nat.le_refl _) (.slice none 0 0)).setCell (p := ⟨w.heap.size, 2, none⟩) (Nat.le_refl _) (.slice none 0 0))
  generalize (((w3.setCell ⟨w.heap.size, 0, none⟩ (.slice none 0 0)).setCell ⟨w.heap.size, 1, none⟩ (.slice none 0 0)).setCell ⟨w.heap.size, 2, none⟩ (.slice none 0 0)) = W at *
  have c0 : W.cell? ⟨w.heap.size, 0, none⟩ = some (.slice none 0 0) := HBF.out.cell 0
  have c1 : W.cell? ⟨w.heap.size, 1, none⟩ = some (.slice none 0 0) := HBF.out.cell 1
  have c2 : W.cell? ⟨w.heap.size, 2, none⟩ = some (.slice none 0 0) := HBF.out.cell 2
  have key : ∀ a : Act, a.tmps[2]? = some (.pointer (some ⟨w.heap.size, 0, none⟩)) → a.tmps[3]? = some (.bool false) → a.defers = [] → bodyPost Try.prog Try.f19 (NoRules w) Exit.ret a W := fun a h2 h3 hd => by
    refine bodyPost_ret (stold_results h2 h3 c0 c1 c2) hd ⟨rfl, HKF.out⟩
  exact key _ rfl rfl rfl
theorem meeting_none (w : World) : Calls Try.prog 48 #[.string ⟨#[]⟩] w fun e w' => e = .returned .nilIface ∧ w' = w := by
  go_enter Try.func48, Try.ntmps48
  go_wp2
  go_ret
  exact ⟨rfl, rfl⟩
theorem iRulesOf_none (w : World) : Calls Try.prog 18 #[.string ⟨#[]⟩] w (NoRules w) := by
  have HB1 := Lib.hid (Blk.new w #[.slice none 0 0, .slice none 0 0, .slice none 0 0] 26)
  have HK1 := Lib.hid (Keeps.alloc w (.cells #[.slice none 0 0, .slice none 0 0, .slice none 0 0] 26))
  go_enter Try.func18, Try.ntmps18
  go_wp2_with fail
  generalize w.alloc (.cells #[.slice none 0 0, .slice none 0 0, .slice none 0 0] 26) = w1 at *
  refine (meeting_none w1).mono ?_
  rintro e w3 ⟨rfl, rfl⟩
  have hwz := HB1.out.lt
  have e0 : w3.cell? ⟨w.heap.size, 0, none⟩ = some (.slice none 0 0) := HB1.out.cell 0
  have f0 := HB1.out.frozen 0
  have e1 : w3.cell? ⟨w.heap.size, 1, none⟩ = some (.slice none 0 0) := HB1.out.cell 1
  have f1 := HB1.out.frozen 1
  have e2 : w3.cell? ⟨w.heap.size, 2, none⟩ = some (.slice none 0 0) := HB1.out.cell 2
  have f2 := HB1.out.frozen 2
  go_wp2
  have HBF : Hid (Blk (((w3.setCell ⟨w.heap.size, 0, none⟩ (.slice none 0 0)).setCell ⟨w.heap.size, 1, none⟩ (.slice none 0 0)).setCell ⟨w.heap.size, 2, none⟩ (.slice none 0 0)) w.heap.size 26 #[.slice none 0 0, .slice none 0 0, .slice none 0 0]) := Lib.hid (((HB1.out.set 0 (.slice none 0 0)).set 1 (.slice none 0 0)).set 2 (.slice none 0 0))
  have HKF := Lib.hid (((HK1.out.setCell (p := ⟨w.heap.size, 0, none⟩) (Nat.le_refl _) (.slice none 0 0)).setCell (p := ⟨w.heap.size, 1, none⟩) (Nat.le_refl _) (.slice none 0 0)).setCell (p := ⟨w.heap.size, 2, none⟩) (Nat.le_refl _) (.slice none 0 0))
  generalize (((w3.setCell ⟨w.heap.size, 0, none⟩ (.slice none 0 0)).setCell ⟨w.heap.size, 1, none⟩ (.slice none 0 0)).setCell ⟨w.heap.size, 2, none⟩ (.slice none 0 0)) = W at *
  have c0 : W.cell? ⟨w.heap.size, 0, none⟩ = some (.slice none 0 0) := HBF.out.cell 0
  have c1 : W.cell? ⟨w.heap.size, 1, none⟩ = some (.slice none 0 0) := HBF.out.cell 1
  have c2 : W.cell? ⟨w.heap.size, 2, none⟩ = some (.slice none 0 0) := HBF.out.cell 2
  have key : ∀ a : Act, a.tmps[2]? = some (.pointer (some ⟨w.heap.size, 0, none⟩)) → a.tmps[3]? = some (.bool false) → a.defers = [] → bodyPost Try.prog Try.f18 (NoRules w) Exit.ret a W := fun a h2 h3 hd => by
    refine bodyPost_ret (told_results h2 h3 c0 c1 c2) hd ⟨rfl, HKF.out⟩
  exact key _ rfl rfl rfl
set_option maxHeartbeats 2000000 in
theorem eqRules_true (S A B S' A' B' : Option Addr) (n c1 c2 c3 d1 d2 d3 : Nat) (s : Nat → Int) (r1 r2 q1 q2 : Nat → Option Addr × Nat × Nat) (f g f' g' : Nat → Nat → Int) (w : World) (hn : n ≤ 1000) (h1 : Ints w S n s) (h2 : Rows w A n r1 f) (h3 : Rows w B n r2 g) (h4 : Ints w S' n s) (h5 : Rows w A' n q1 f') (h6 : Rows w B' n q2 g') (hl : ∀ i, i < n → (r1 i).2.1 = n ∧ (r2 i).2.1 = n ∧ (q1 i).2.1 = n ∧ (q2 i).2.1 = n) (he : ∀ i j, i < n → j < n → f i j = f' i j ∧ g i j = g' i j) :
    Calls Try.prog 20 #[.agg #[.slice S n c1, .slice A n c2, .slice B n c3], .agg #[.slice S' n d1, .slice A' n d2, .slice B' n d3]] w fun e w' => e = .returned (.bool true) ∧ Keeps w w' := by
  have C1 := Lib.hid (fun W (hK : Keeps w W) => eInts_true S S' n c1 d1 s s W (by omega) (h1.keeps hK) (h4.keeps hK) (fun _ _ => rfl))
  have C2 := Lib.hid (fun W (hK : Keeps w W) => eRows_true A A' n c2 d2 r1 q1 f f' W (by omega) (h2.keeps hK) (h5.keeps hK) (fun i hi => by have := (hl i hi).1; omega) (fun i hi => ⟨by rw [(hl i hi).1, (hl i hi).2.2.1], fun j hj => (he i j hi (by have := (hl i hi).1; omega)).1⟩))
  have C3 := Lib.hid (fun W (hK : Keeps w W) => eRows_true B B' n c3 d3 r2 q2 g g' W (by omega) (h3.keeps hK) (h6.keeps hK) (fun i hi => by have := (hl i hi).2.1; omega) (fun i hi => ⟨by rw [(hl i hi).2.1, (hl i hi).2.2.2], fun j hj => (he i j hi (by have := (hl i hi).2.1; omega)).2⟩))
  have HK0 := Lib.hid ((Keeps.alloc w (.cells #[.slice S n c1, .slice A n c2, .slice B n c3] 26)).step (Keeps.alloc _ (.cells #[.slice S' n d1, .slice A' n d2, .slice B' n d3] 26)))
  have HB1 := Lib.hid ((Blk.new w #[.slice S n c1, .slice A n c2, .slice B n c3] 26).keeps (Keeps.alloc _ (.cells #[.slice S' n d1, .slice A' n d2, .slice B' n d3] 26)))
  have HB2 := Lib.hid (Blk.new (w.alloc (.cells #[.slice S n c1, .slice A n c2, .slice B n c3] 26)) #[.slice S' n d1, .slice A' n d2, .slice B' n d3] 26)
  rw [World.size_alloc] at HB2
  clear h1 h2 h3 h4 h5 h6 hl he
  go_enter Try.func20, Try.ntmps20
  go_wp2_with fail
  generalize ((w.alloc (.cells #[.slice S n c1, .slice A n c2, .slice B n c3] 26)).alloc (.cells #[.slice S' n d1, .slice A' n d2, .slice B' n d3] 26)) = w1 at *
  refine (C1.out _ HK0.out).mono ?_
  rintro e w2 ⟨rfl, hk2⟩
  have HK2 := Lib.hid (HK0.out.step hk2)
  have HB3 := Lib.hid (HB1.out.keeps hk2)
  have HB4 := Lib.hid (HB2.out.keeps hk2)
  have x1 : w2.cell? ⟨w.heap.size, 1, none⟩ = some (.slice A n c2) := HB3.out.cell 1
  have x2 : w2.cell? ⟨w.heap.size + 1, 1, none⟩ = some (.slice A' n d2) := HB4.out.cell 1
  clear hk2 HB1 HB2
  go_wp2_with fail
  refine (C2.out _ HK2.out).mono ?_
  rintro e w3 ⟨rfl, hk3⟩
  have HK3 := Lib.hid (HK2.out.step hk3)
  have HB5 := Lib.hid (HB3.out.keeps hk3)
  have HB6 := Lib.hid (HB4.out.keeps hk3)
  have x3 : w3.cell? ⟨w.heap.size, 2, none⟩ = some (.slice B n c3) := HB5.out.cell 2
  have x4 : w3.cell? ⟨w.heap.size + 1, 2, none⟩ = some (.slice B' n d3) := HB6.out.cell 2
  clear hk3 HB3 HB4 x1 x2
  go_wp2_with fail
  refine (C3.out _ HK3.out).mono ?_
  rintro e w4 ⟨rfl, hk4⟩
  have HK4 := Lib.hid (HK3.out.step hk4)
  clear hk4
  go_wp2
  go_ret
  exact ⟨rfl, HK4.out⟩
end Go.Proofs.Ytaejakejnllimaa
