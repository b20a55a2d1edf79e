/-
  The program's RulesOf at the four names. No condition.
-/
import Derived.Test.YtaejakejnllimaaMeet
import Derived.Test.YtaejakejnllimaaRulesI
import Derived.Deep.QuietTactic
import Derived.BigQuiet
import Derived.LaidEql
namespace Go.Proofs.Ytaejakejnllimaa
set_option linter.unusedVariables false
set_option maxRecDepth 100000
open Go.RowKit

/-- Rules and true, as RulesOf hands them back. -/
def RulesTold (w : World) (n : Nat) (l : List Int) (F G : Nat → Nat → Int) (e : Ending) (w' : World) : Prop :=
  ∃ (S A B : Option Addr) (R1 R2 : List Hdr), e = .returned (.tuple #[.agg #[.slice S n n, .slice A n n, .slice B n n], .bool true]) ∧ R1.map (·.l) = tabK n F n ∧ R2.map (·.l) = tabK n G n ∧ Ints w' S n (lsI l) ∧ Crn w' w.heap.size A n R1 ∧ Crn w' w.heap.size B n R2 ∧ Keeps w w'
theorem Crn.low {w : World} {lo m r : Nat} {A : Option Addr} {R : List Hdr} (h : Crn w lo A m R) (hr : r < lo) (j : Nat) (v : Value) : Crn (w.setCell ⟨r, j, none⟩ v) lo A m R := by
  refine ⟨h.len, ?_, fun z hz => own_kept (h.row z hz) (grown_set w r j v) (fun d hd e => by have e2 : r = d := (by simpa using e); have := (own_block (h.row z hz) d hd).1; omega)⟩
  rcases h.top with h0 | ⟨g, cur, e, h1, h2, h3⟩
  · exact .inl h0
  · exact .inr ⟨g, cur, e, h1, h2.set_other _ _ (by simp only; omega), h3⟩
theorem Crn.mono' {w : World} {lo lo' m : Nat} {A : Option Addr} {R : List Hdr} (h : Crn w lo A m R) (hl : lo' ≤ lo) : Crn w lo' A m R := by
  refine ⟨h.len, ?_, fun z hz => (h.row z hz).mono hl⟩
  rcases h.top with h0 | ⟨g, cur, e, h1, h2, h3⟩
  · exact .inl h0
  · exact .inr ⟨g, cur, e, by omega, h2, h3⟩
theorem Ints.other {w : World} {d n r : Nat} {x : Nat → Int} (h : Ints w (some ⟨d, 0, none⟩) n x) (hr : r ≠ d) (j : Nat) (v : Value) : Ints (w.setCell ⟨r, j, none⟩ v) (some ⟨d, 0, none⟩) n x := fun i hi => by
  obtain ⟨d', off, e, hc⟩ := h i hi
  cases e
  refine ⟨d, 0, rfl, ?_⟩
  rw [World.cell?_setCell_other (h := fun e => hr (congrArg Addr.block e))]
  exact hc
theorem told_results {a : Act} {W : World} {b : Nat} {v0 v1 v2 : Value} {v : Value} (h2 : a.tmps[2]? = some (.pointer (some ⟨b, 0, none⟩))) (h3 : a.tmps[3]? = some v) (c0 : W.cell? ⟨b, 0, none⟩ = some v0) (c1 : W.cell? ⟨b, 1, none⟩ = some v1) (c2 : W.cell? ⟨b, 2, none⟩ = some v2) : (results Try.f18 a.tmps).run Try.prog W = .ok (.tuple #[.agg #[v0, v1, v2], v]) W := by
  simp [results, Try.results18, go_sem, c0, c1, c2, h2, h3]
theorem both_some (d a b c : Nat) (S : Option Addr) (ha : a < 2) (hb : b < 2) (w : World) (hB : Blk w d 66 #[.slice S 2 c, .func (.func 69) #[] #[]]) :
    Calls Try.prog 74 #[.int .i64 a, .int .i64 b, .pointer (some ⟨d, 0, none⟩)] w fun e w' => e = .returned (.tuple #[.int .i64 (lsII [[0, 1], [1, 1]] a b), .int .i64 (lsII [[0, 1], [1, 1]] a b)]) ∧ Keeps w w' := by
  have h1 : w.cell? ⟨d, 1, none⟩ = some (.func (.func 69) #[] #[]) := hB.cell 1
  have HE : Hid (lsII [[0, 1], [1, 1]] b a = lsII [[0, 1], [1, 1]] a b) := Lib.hid (by
    rcases below2 ha with rfl | rfl <;> rcases below2 hb with rfl | rfl <;> rfl)
  have C1 := Lib.hid (fun W => meet1_any a b ha hb W)
  have C2 := Lib.hid (fun W => meet1_any b a hb ha W)
  clear hB
  generalize lsII [[0, 1], [1, 1]] a b = x at *
  generalize lsII [[0, 1], [1, 1]] b a = y at *
  go_enter Try.func74, Try.ntmps74
  go_wp2_with fail
  go_quiet (first | (go_at_call 69; first | (with_reducible exact Calls.quiet_of_same ((C1.out _).mono fun _ _ h => ⟨h.1, h.2.symm⟩)) | (with_reducible exact Calls.quiet_of_same ((C2.out _).mono fun _ _ h => ⟨h.1, h.2.symm⟩))))
  go_wp2
  refine bodyPost_ret (v := .tuple #[.int .i64 x, .int .i64 y]) ?_ rfl ⟨by rw [HE.out], Keeps.drewN w nq⟩
  first | rfl | (simp [results, Try.results74, go_sem]; done)
theorem meeting_some (w : World) : Calls Try.prog 48 #[.string ⟨#[115, 111, 109, 101]⟩] w fun e w' => e = .returned (.iface 66 (.agg #[.slice (some ⟨w.heap.size, 0, none⟩) 2 2, .func (.func 69) #[] #[]])) ∧ w' = w.alloc (.cells #[.int .i64 0, .int .i64 1] 3) := by
  go_enter Try.func48, Try.ntmps48
  go_wp2
  go_ret
  exact ⟨rfl, rfl⟩
set_option maxHeartbeats 4000000 in
theorem iRulesOf_some (w : World) : Calls Try.prog 18 #[.string ⟨#[115, 111, 109, 101]⟩] w (RulesTold w 2 [0, 1] (lsII [[0, 1], [1, 1]]) (lsII [[0, 1], [1, 1]])) := by
  have HB1 := Lib.hid ((Blk.new w #[.slice none 0 0, .slice none 0 0, .slice none 0 0] 26).keeps (Keeps.alloc _ (.cells #[.int .i64 0, .int .i64 1] 3)))
  have HI1 : Hid (Ints ((w.alloc (.cells #[.slice none 0 0, .slice none 0 0, .slice none 0 0] 26)).alloc (.cells #[.int .i64 0, .int .i64 1] 3)) (some ⟨w.heap.size + 1, 0, none⟩) 2 (lsI [0, 1])) := Lib.hid (by
    have h := ints_of (l := [0, 1]) (Blk.new (w.alloc (.cells #[.slice none 0 0, .slice none 0 0, .slice none 0 0] 26)) #[.int .i64 0, .int .i64 1] 3)
    rw [World.size_alloc] at h
    exact h)
  have HK1 := Lib.hid ((Keeps.alloc w (.cells #[.slice none 0 0, .slice none 0 0, .slice none 0 0] 26)).step (Keeps.alloc _ (.cells #[.int .i64 0, .int .i64 1] 3)))
  have HZ1 : Hid (((w.alloc (.cells #[.slice none 0 0, .slice none 0 0, .slice none 0 0] 26)).alloc (.cells #[.int .i64 0, .int .i64 1] 3)).heap.size = w.heap.size + 2) := Lib.hid (by simp)
  go_enter Try.func18, Try.ntmps18
  go_wp2_with fail
  refine (meeting_some _).mono ?_
  rintro e w1 ⟨rfl, rfl⟩
  rw [World.size_alloc]
  generalize ((w.alloc (.cells #[.slice none 0 0, .slice none 0 0, .slice none 0 0] 26)).alloc (.cells #[.int .i64 0, .int .i64 1] 3)) = w2 at *
  go_wp2_with fail
  refine (rulesA_any 69 (some ⟨w.heap.size + 1, 0, none⟩) 2 2 (lsII [[0, 1], [1, 1]]) (lsII [[0, 1], [1, 1]]) w2 (by omega) (by omega) (fun d a b W hb h1 h2 => both_some d a b 2 _ h1 h2 W hb)).mono ?_
  rintro e w3 ⟨A, B, R1, R2, rfl, ht1, ht2, hc1, hc2, hk3⟩
  have HB3 := Lib.hid (HB1.out.keeps hk3)
  have HC1 : Hid (Crn w3 (w.heap.size + 2) A 2 R1) := Lib.hid (by rw [← HZ1.out]; exact hc1)
  have HC2 : Hid (Crn w3 (w.heap.size + 2) B 2 R2) := Lib.hid (by rw [← HZ1.out]; exact hc2)
  have HI3 := Lib.hid (HI1.out.keeps hk3)
  have HK3 := Lib.hid (HK1.out.step hk3)
  have HT := Lib.hid (And.intro ht1 ht2)
  have hwz := HB3.out.lt
  have e0 : w3.cell? ⟨w.heap.size, 0, none⟩ = some (.slice none 0 0) := HB3.out.cell 0
  have e1 : w3.cell? ⟨w.heap.size, 1, none⟩ = some (.slice none 0 0) := HB3.out.cell 1
  have e2 : w3.cell? ⟨w.heap.size, 2, none⟩ = some (.slice none 0 0) := HB3.out.cell 2
  have f0 := HB3.out.frozen 0
  have f1 := HB3.out.frozen 1
  have f2 := HB3.out.frozen 2
  clear hc1 hc2 hk3 ht1 ht2 HB1 HI1 HK1 HZ1
  go_wp2
  have y1 := ((HB3.out.set 0 (.slice (some ⟨w.heap.size + 1, 0, none⟩) 2 2)).set 1 (.slice A 2 2)).set 2 (.slice B 2 2)
  have c0 : (((w3.setCell ⟨w.heap.size, 0, none⟩ (.slice (some ⟨w.heap.size + 1, 0, none⟩) 2 2)).setCell ⟨w.heap.size, 1, none⟩ (.slice A 2 2)).setCell ⟨w.heap.size, 2, none⟩ (.slice B 2 2)).cell? ⟨w.heap.size, 0, none⟩ = some (.slice (some ⟨w.heap.size + 1, 0, none⟩) 2 2) := y1.cell 0
  have c1 : (((w3.setCell ⟨w.heap.size, 0, none⟩ (.slice (some ⟨w.heap.size + 1, 0, none⟩) 2 2)).setCell ⟨w.heap.size, 1, none⟩ (.slice A 2 2)).setCell ⟨w.heap.size, 2, none⟩ (.slice B 2 2)).cell? ⟨w.heap.size, 1, none⟩ = some (.slice A 2 2) := y1.cell 1
  have c2 : (((w3.setCell ⟨w.heap.size, 0, none⟩ (.slice (some ⟨w.heap.size + 1, 0, none⟩) 2 2)).setCell ⟨w.heap.size, 1, none⟩ (.slice A 2 2)).setCell ⟨w.heap.size, 2, none⟩ (.slice B 2 2)).cell? ⟨w.heap.size, 2, none⟩ = some (.slice B 2 2) := y1.cell 2
  have HA9 := Lib.hid (((HC1.out.low (r := w.heap.size) (by omega) 0 (.slice (some ⟨w.heap.size + 1, 0, none⟩) 2 2)).low (r := w.heap.size) (by omega) 1 (.slice A 2 2)).low (r := w.heap.size) (by omega) 2 (.slice B 2 2))
  have HB9 := Lib.hid (((HC2.out.low (r := w.heap.size) (by omega) 0 (.slice (some ⟨w.heap.size + 1, 0, none⟩) 2 2)).low (r := w.heap.size) (by omega) 1 (.slice A 2 2)).low (r := w.heap.size) (by omega) 2 (.slice B 2 2))
  have HK9 := Lib.hid (((HK3.out.setCell (p := ⟨w.heap.size, 0, none⟩) (Nat.le_refl _) (.slice (some ⟨w.heap.size + 1, 0, none⟩) 2 2)).setCell (p := ⟨w.heap.size, 1, none⟩) (Nat.le_refl _) (.slice A 2 2)).setCell (p := ⟨w.heap.size, 2, none⟩) (Nat.le_refl _) (.slice B 2 2))
  have HI9 := Lib.hid (((HI3.out.other (r := w.heap.size) (by omega) 0 (.slice (some ⟨w.heap.size + 1, 0, none⟩) 2 2)).other (r := w.heap.size) (by omega) 1 (.slice A 2 2)).other (r := w.heap.size) (by omega) 2 (.slice B 2 2))
  clear y1
  generalize (((w3.setCell ⟨w.heap.size, 0, none⟩ (.slice (some ⟨w.heap.size + 1, 0, none⟩) 2 2)).setCell ⟨w.heap.size, 1, none⟩ (.slice A 2 2)).setCell ⟨w.heap.size, 2, none⟩ (.slice B 2 2)) = W at *
  have key : ∀ a : Act, a.tmps[2]? = some (.pointer (some ⟨w.heap.size, 0, none⟩)) → a.tmps[3]? = some (.bool true) → a.defers = [] → bodyPost Try.prog Try.f18 (RulesTold w 2 [0, 1] (lsII [[0, 1], [1, 1]]) (lsII [[0, 1], [1, 1]])) Exit.ret a W := fun a h2 h3 hd => by
    refine bodyPost_ret (told_results h2 h3 c0 c1 c2) hd ⟨some ⟨w.heap.size + 1, 0, none⟩, A, B, R1, R2, rfl, HT.out.1, HT.out.2, HI9.out, HA9.out.mono' (by omega), HB9.out.mono' (by omega), HK9.out⟩
  exact key _ rfl rfl rfl
theorem meeting_three (w : World) : Calls Try.prog 48 #[.string ⟨#[116, 104, 114, 101, 101]⟩] w fun e w' => e = .returned (.iface 69 (.agg #[.slice (some ⟨w.heap.size, 0, none⟩) 4 4, .func (.func 70) #[] #[]])) ∧ w' = w.alloc (.cells #[.int .i64 0, .int .i64 0, .int .i64 0, .int .i64 1] 3) := by
  go_enter Try.func48, Try.ntmps48
  go_wp2
  go_ret
  exact ⟨rfl, rfl⟩
set_option maxHeartbeats 4000000 in
theorem iRulesOf_three (w : World) : Calls Try.prog 18 #[.string ⟨#[116, 104, 114, 101, 101]⟩] w (RulesTold w 4 [0, 0, 0, 1] (lsII [[0, 1, 2, 3], [1, 2, 3, 3], [2, 3, 3, 3], [3, 3, 3, 3]]) (lsII [[0, 0, 0, 3], [0, 0, 3, 3], [0, 3, 3, 3], [3, 3, 3, 3]])) := by
  have HB1 := Lib.hid ((Blk.new w #[.slice none 0 0, .slice none 0 0, .slice none 0 0] 26).keeps (Keeps.alloc _ (.cells #[.int .i64 0, .int .i64 0, .int .i64 0, .int .i64 1] 3)))
  have HI1 : Hid (Ints ((w.alloc (.cells #[.slice none 0 0, .slice none 0 0, .slice none 0 0] 26)).alloc (.cells #[.int .i64 0, .int .i64 0, .int .i64 0, .int .i64 1] 3)) (some ⟨w.heap.size + 1, 0, none⟩) 4 (lsI [0, 0, 0, 1])) := Lib.hid (by
    have h := ints_of (l := [0, 0, 0, 1]) (Blk.new (w.alloc (.cells #[.slice none 0 0, .slice none 0 0, .slice none 0 0] 26)) #[.int .i64 0, .int .i64 0, .int .i64 0, .int .i64 1] 3)
    rw [World.size_alloc] at h
    exact h)
  have HK1 := Lib.hid ((Keeps.alloc w (.cells #[.slice none 0 0, .slice none 0 0, .slice none 0 0] 26)).step (Keeps.alloc _ (.cells #[.int .i64 0, .int .i64 0, .int .i64 0, .int .i64 1] 3)))
  have HZ1 : Hid (((w.alloc (.cells #[.slice none 0 0, .slice none 0 0, .slice none 0 0] 26)).alloc (.cells #[.int .i64 0, .int .i64 0, .int .i64 0, .int .i64 1] 3)).heap.size = w.heap.size + 2) := Lib.hid (by simp)
  go_enter Try.func18, Try.ntmps18
  go_wp2_with fail
  refine (meeting_three _).mono ?_
  rintro e w1 ⟨rfl, rfl⟩
  rw [World.size_alloc]
  generalize ((w.alloc (.cells #[.slice none 0 0, .slice none 0 0, .slice none 0 0] 26)).alloc (.cells #[.int .i64 0, .int .i64 0, .int .i64 0, .int .i64 1] 3)) = w2 at *
  go_wp2_with fail
  refine (rulesT_any 70 (some ⟨w.heap.size + 1, 0, none⟩) 4 4 (lsII [[0, 1, 2, 3], [1, 2, 3, 3], [2, 3, 3, 3], [3, 3, 3, 3]]) (lsII [[0, 0, 0, 3], [0, 0, 3, 3], [0, 3, 3, 3], [3, 3, 3, 3]]) w2 (by omega) (by omega) (fun _ _ => rfl) (fun a b W h1 h2 => (meet2_any a b h1 h2 W).mono (fun e w9 h => ⟨h.1, by rw [← h.2]; exact Keeps.refl _⟩))).mono ?_
  rintro e w3 ⟨A, B, R1, R2, rfl, ht1, ht2, hc1, hc2, hk3⟩
  have HB3 := Lib.hid (HB1.out.keeps hk3)
  have HC1 : Hid (Crn w3 (w.heap.size + 2) A 4 R1) := Lib.hid (by rw [← HZ1.out]; exact hc1)
  have HC2 : Hid (Crn w3 (w.heap.size + 2) B 4 R2) := Lib.hid (by rw [← HZ1.out]; exact hc2)
  have HI3 := Lib.hid (HI1.out.keeps hk3)
  have HK3 := Lib.hid (HK1.out.step hk3)
  have HT := Lib.hid (And.intro ht1 ht2)
  have hwz := HB3.out.lt
  have e0 : w3.cell? ⟨w.heap.size, 0, none⟩ = some (.slice none 0 0) := HB3.out.cell 0
  have e1 : w3.cell? ⟨w.heap.size, 1, none⟩ = some (.slice none 0 0) := HB3.out.cell 1
  have e2 : w3.cell? ⟨w.heap.size, 2, none⟩ = some (.slice none 0 0) := HB3.out.cell 2
  have f0 := HB3.out.frozen 0
  have f1 := HB3.out.frozen 1
  have f2 := HB3.out.frozen 2
  clear hc1 hc2 hk3 ht1 ht2 HB1 HI1 HK1 HZ1
  go_wp2
  have y1 := ((HB3.out.set 0 (.slice (some ⟨w.heap.size + 1, 0, none⟩) 4 4)).set 1 (.slice A 4 4)).set 2 (.slice B 4 4)
  have c0 : (((w3.setCell ⟨w.heap.size, 0, none⟩ (.slice (some ⟨w.heap.size + 1, 0, none⟩) 4 4)).setCell ⟨w.heap.size, 1, none⟩ (.slice A 4 4)).setCell ⟨w.heap.size, 2, none⟩ (.slice B 4 4)).cell? ⟨w.heap.size, 0, none⟩ = some (.slice (some ⟨w.heap.size + 1, 0, none⟩) 4 4) := y1.cell 0
  have c1 : (((w3.setCell ⟨w.heap.size, 0, none⟩ (.slice (some ⟨w.heap.size + 1, 0, none⟩) 4 4)).setCell ⟨w.heap.size, 1, none⟩ (.slice A 4 4)).setCell ⟨w.heap.size, 2, none⟩ (.slice B 4 4)).cell? ⟨w.heap.size, 1, none⟩ = some (.slice A 4 4) := y1.cell 1
  have c2 : (((w3.setCell ⟨w.heap.size, 0, none⟩ (.slice (some ⟨w.heap.size + 1, 0, none⟩) 4 4)).setCell ⟨w.heap.size, 1, none⟩ (.slice A 4 4)).setCell ⟨w.heap.size, 2, none⟩ (.slice B 4 4)).cell? ⟨w.heap.size, 2, none⟩ = some (.slice B 4 4) := y1.cell 2
  have HA9 := Lib.hid (((HC1.out.low (r := w.heap.size) (by omega) 0 (.slice (some ⟨w.heap.size + 1, 0, none⟩) 4 4)).low (r := w.heap.size) (by omega) 1 (.slice A 4 4)).low (r := w.heap.size) (by omega) 2 (.slice B 4 4))
  have HB9 := Lib.hid (((HC2.out.low (r := w.heap.size) (by omega) 0 (.slice (some ⟨w.heap.size + 1, 0, none⟩) 4 4)).low (r := w.heap.size) (by omega) 1 (.slice A 4 4)).low (r := w.heap.size) (by omega) 2 (.slice B 4 4))
  have HK9 := Lib.hid (((HK3.out.setCell (p := ⟨w.heap.size, 0, none⟩) (Nat.le_refl _) (.slice (some ⟨w.heap.size + 1, 0, none⟩) 4 4)).setCell (p := ⟨w.heap.size, 1, none⟩) (Nat.le_refl _) (.slice A 4 4)).setCell (p := ⟨w.heap.size, 2, none⟩) (Nat.le_refl _) (.slice B 4 4))
  have HI9 := Lib.hid (((HI3.out.other (r := w.heap.size) (by omega) 0 (.slice (some ⟨w.heap.size + 1, 0, none⟩) 4 4)).other (r := w.heap.size) (by omega) 1 (.slice A 4 4)).other (r := w.heap.size) (by omega) 2 (.slice B 4 4))
  clear y1
  generalize (((w3.setCell ⟨w.heap.size, 0, none⟩ (.slice (some ⟨w.heap.size + 1, 0, none⟩) 4 4)).setCell ⟨w.heap.size, 1, none⟩ (.slice A 4 4)).setCell ⟨w.heap.size, 2, none⟩ (.slice B 4 4)) = W at *
  have key : ∀ a : Act, a.tmps[2]? = some (.pointer (some ⟨w.heap.size, 0, none⟩)) → a.tmps[3]? = some (.bool true) → a.defers = [] → bodyPost Try.prog Try.f18 (RulesTold w 4 [0, 0, 0, 1] (lsII [[0, 1, 2, 3], [1, 2, 3, 3], [2, 3, 3, 3], [3, 3, 3, 3]]) (lsII [[0, 0, 0, 3], [0, 0, 3, 3], [0, 3, 3, 3], [3, 3, 3, 3]])) Exit.ret a W := fun a h2 h3 hd => by
    refine bodyPost_ret (told_results h2 h3 c0 c1 c2) hd ⟨some ⟨w.heap.size + 1, 0, none⟩, A, B, R1, R2, rfl, HT.out.1, HT.out.2, HI9.out, HA9.out.mono' (by omega), HB9.out.mono' (by omega), HK9.out⟩
  exact key _ rfl rfl rfl
theorem both_most (d a b c : Nat) (S : Option Addr) (ha : a < 4) (hb : b < 4) (w : World) (hB : Blk w d 66 #[.slice S 4 c, .func (.func 71) #[] #[]]) :
    Calls Try.prog 74 #[.int .i64 a, .int .i64 b, .pointer (some ⟨d, 0, none⟩)] w fun e w' => e = .returned (.tuple #[.int .i64 (lsII [[0, 2, 0, 0], [2, 1, 1, 1], [2, 3, 2, 2], [2, 3, 2, 3]] a b), .int .i64 (lsII [[0, 2, 2, 2], [2, 1, 3, 3], [0, 1, 2, 2], [0, 1, 2, 3]] a b)]) ∧ Keeps w w' := by
  have h1 : w.cell? ⟨d, 1, none⟩ = some (.func (.func 71) #[] #[]) := hB.cell 1
  have HE : Hid (lsII [[0, 2, 0, 0], [2, 1, 1, 1], [2, 3, 2, 2], [2, 3, 2, 3]] b a = lsII [[0, 2, 2, 2], [2, 1, 3, 3], [0, 1, 2, 2], [0, 1, 2, 3]] a b) := Lib.hid (by
    rcases below4 ha with rfl | rfl | rfl | rfl <;> rcases below4 hb with rfl | rfl | rfl | rfl <;> rfl)
  have C1 := Lib.hid (fun W => meet3_any a b ha hb W)
  have C2 := Lib.hid (fun W => meet3_any b a hb ha W)
  clear hB
  generalize lsII [[0, 2, 0, 0], [2, 1, 1, 1], [2, 3, 2, 2], [2, 3, 2, 3]] a b = x at *
  generalize lsII [[0, 2, 0, 0], [2, 1, 1, 1], [2, 3, 2, 2], [2, 3, 2, 3]] b a = y at *
  go_enter Try.func74, Try.ntmps74
  go_wp2_with fail
  go_quiet (first | (go_at_call 71; first | (with_reducible exact Calls.quiet_of_same ((C1.out _).mono fun _ _ h => ⟨h.1, h.2.symm⟩)) | (with_reducible exact Calls.quiet_of_same ((C2.out _).mono fun _ _ h => ⟨h.1, h.2.symm⟩))))
  go_wp2
  refine bodyPost_ret (v := .tuple #[.int .i64 x, .int .i64 y]) ?_ rfl ⟨by rw [HE.out], Keeps.drewN w nq⟩
  first | rfl | (simp [results, Try.results74, go_sem]; done)
theorem meeting_most (w : World) : Calls Try.prog 48 #[.string ⟨#[109, 111, 115, 116]⟩] w fun e w' => e = .returned (.iface 66 (.agg #[.slice (some ⟨w.heap.size, 0, none⟩) 4 4, .func (.func 71) #[] #[]])) ∧ w' = w.alloc (.cells #[.int .i64 0, .int .i64 1, .int .i64 0, .int .i64 1] 3) := by
  go_enter Try.func48, Try.ntmps48
  go_wp2
  go_ret
  exact ⟨rfl, rfl⟩
set_option maxHeartbeats 4000000 in
theorem iRulesOf_most (w : World) : Calls Try.prog 18 #[.string ⟨#[109, 111, 115, 116]⟩] w (RulesTold w 4 [0, 1, 0, 1] (lsII [[0, 2, 0, 0], [2, 1, 1, 1], [2, 3, 2, 2], [2, 3, 2, 3]]) (lsII [[0, 2, 2, 2], [2, 1, 3, 3], [0, 1, 2, 2], [0, 1, 2, 3]])) := by
  have HB1 := Lib.hid ((Blk.new w #[.slice none 0 0, .slice none 0 0, .slice none 0 0] 26).keeps (Keeps.alloc _ (.cells #[.int .i64 0, .int .i64 1, .int .i64 0, .int .i64 1] 3)))
  have HI1 : Hid (Ints ((w.alloc (.cells #[.slice none 0 0, .slice none 0 0, .slice none 0 0] 26)).alloc (.cells #[.int .i64 0, .int .i64 1, .int .i64 0, .int .i64 1] 3)) (some ⟨w.heap.size + 1, 0, none⟩) 4 (lsI [0, 1, 0, 1])) := Lib.hid (by
    have h := ints_of (l := [0, 1, 0, 1]) (Blk.new (w.alloc (.cells #[.slice none 0 0, .slice none 0 0, .slice none 0 0] 26)) #[.int .i64 0, .int .i64 1, .int .i64 0, .int .i64 1] 3)
    rw [World.size_alloc] at h
    exact h)
  have HK1 := Lib.hid ((Keeps.alloc w (.cells #[.slice none 0 0, .slice none 0 0, .slice none 0 0] 26)).step (Keeps.alloc _ (.cells #[.int .i64 0, .int .i64 1, .int .i64 0, .int .i64 1] 3)))
  have HZ1 : Hid (((w.alloc (.cells #[.slice none 0 0, .slice none 0 0, .slice none 0 0] 26)).alloc (.cells #[.int .i64 0, .int .i64 1, .int .i64 0, .int .i64 1] 3)).heap.size = w.heap.size + 2) := Lib.hid (by simp)
  go_enter Try.func18, Try.ntmps18
  go_wp2_with fail
  refine (meeting_most _).mono ?_
  rintro e w1 ⟨rfl, rfl⟩
  rw [World.size_alloc]
  generalize ((w.alloc (.cells #[.slice none 0 0, .slice none 0 0, .slice none 0 0] 26)).alloc (.cells #[.int .i64 0, .int .i64 1, .int .i64 0, .int .i64 1] 3)) = w2 at *
  go_wp2_with fail
  refine (rulesA_any 71 (some ⟨w.heap.size + 1, 0, none⟩) 4 4 (lsII [[0, 2, 0, 0], [2, 1, 1, 1], [2, 3, 2, 2], [2, 3, 2, 3]]) (lsII [[0, 2, 2, 2], [2, 1, 3, 3], [0, 1, 2, 2], [0, 1, 2, 3]]) w2 (by omega) (by omega) (fun d a b W hb h1 h2 => both_most d a b 4 _ h1 h2 W hb)).mono ?_
  rintro e w3 ⟨A, B, R1, R2, rfl, ht1, ht2, hc1, hc2, hk3⟩
  have HB3 := Lib.hid (HB1.out.keeps hk3)
  have HC1 : Hid (Crn w3 (w.heap.size + 2) A 4 R1) := Lib.hid (by rw [← HZ1.out]; exact hc1)
  have HC2 : Hid (Crn w3 (w.heap.size + 2) B 4 R2) := Lib.hid (by rw [← HZ1.out]; exact hc2)
  have HI3 := Lib.hid (HI1.out.keeps hk3)
  have HK3 := Lib.hid (HK1.out.step hk3)
  have HT := Lib.hid (And.intro ht1 ht2)
  have hwz := HB3.out.lt
  have e0 : w3.cell? ⟨w.heap.size, 0, none⟩ = some (.slice none 0 0) := HB3.out.cell 0
  have e1 : w3.cell? ⟨w.heap.size, 1, none⟩ = some (.slice none 0 0) := HB3.out.cell 1
  have e2 : w3.cell? ⟨w.heap.size, 2, none⟩ = some (.slice none 0 0) := HB3.out.cell 2
  have f0 := HB3.out.frozen 0
  have f1 := HB3.out.frozen 1
  have f2 := HB3.out.frozen 2
  clear hc1 hc2 hk3 ht1 ht2 HB1 HI1 HK1 HZ1
  go_wp2
  have y1 := ((HB3.out.set 0 (.slice (some ⟨w.heap.size + 1, 0, none⟩) 4 4)).set 1 (.slice A 4 4)).set 2 (.slice B 4 4)
  have c0 : (((w3.setCell ⟨w.heap.size, 0, none⟩ (.slice (some ⟨w.heap.size + 1, 0, none⟩) 4 4)).setCell ⟨w.heap.size, 1, none⟩ (.slice A 4 4)).setCell ⟨w.heap.size, 2, none⟩ (.slice B 4 4)).cell? ⟨w.heap.size, 0, none⟩ = some (.slice (some ⟨w.heap.size + 1, 0, none⟩) 4 4) := y1.cell 0
  have c1 : (((w3.setCell ⟨w.heap.size, 0, none⟩ (.slice (some ⟨w.heap.size + 1, 0, none⟩) 4 4)).setCell ⟨w.heap.size, 1, none⟩ (.slice A 4 4)).setCell ⟨w.heap.size, 2, none⟩ (.slice B 4 4)).cell? ⟨w.heap.size, 1, none⟩ = some (.slice A 4 4) := y1.cell 1
  have c2 : (((w3.setCell ⟨w.heap.size, 0, none⟩ (.slice (some ⟨w.heap.size + 1, 0, none⟩) 4 4)).setCell ⟨w.heap.size, 1, none⟩ (.slice A 4 4)).setCell ⟨w.heap.size, 2, none⟩ (.slice B 4 4)).cell? ⟨w.heap.size, 2, none⟩ = some (.slice B 4 4) := y1.cell 2
  have HA9 := Lib.hid (((HC1.out.low (r := w.heap.size) (by omega) 0 (.slice (some ⟨w.heap.size + 1, 0, none⟩) 4 4)).low (r := w.heap.size) (by omega) 1 (.slice A 4 4)).low (r := w.heap.size) (by omega) 2 (.slice B 4 4))
  have HB9 := Lib.hid (((HC2.out.low (r := w.heap.size) (by omega) 0 (.slice (some ⟨w.heap.size + 1, 0, none⟩) 4 4)).low (r := w.heap.size) (by omega) 1 (.slice A 4 4)).low (r := w.heap.size) (by omega) 2 (.slice B 4 4))
  have HK9 := Lib.hid (((HK3.out.setCell (p := ⟨w.heap.size, 0, none⟩) (Nat.le_refl _) (.slice (some ⟨w.heap.size + 1, 0, none⟩) 4 4)).setCell (p := ⟨w.heap.size, 1, none⟩) (Nat.le_refl _) (.slice A 4 4)).setCell (p := ⟨w.heap.size, 2, none⟩) (Nat.le_refl _) (.slice B 4 4))
  have HI9 := Lib.hid (((HI3.out.other (r := w.heap.size) (by omega) 0 (.slice (some ⟨w.heap.size + 1, 0, none⟩) 4 4)).other (r := w.heap.size) (by omega) 1 (.slice A 4 4)).other (r := w.heap.size) (by omega) 2 (.slice B 4 4))
  clear y1
  generalize (((w3.setCell ⟨w.heap.size, 0, none⟩ (.slice (some ⟨w.heap.size + 1, 0, none⟩) 4 4)).setCell ⟨w.heap.size, 1, none⟩ (.slice A 4 4)).setCell ⟨w.heap.size, 2, none⟩ (.slice B 4 4)) = W at *
  have key : ∀ a : Act, a.tmps[2]? = some (.pointer (some ⟨w.heap.size, 0, none⟩)) → a.tmps[3]? = some (.bool true) → a.defers = [] → bodyPost Try.prog Try.f18 (RulesTold w 4 [0, 1, 0, 1] (lsII [[0, 2, 0, 0], [2, 1, 1, 1], [2, 3, 2, 2], [2, 3, 2, 3]]) (lsII [[0, 2, 2, 2], [2, 1, 3, 3], [0, 1, 2, 2], [0, 1, 2, 3]])) Exit.ret a W := fun a h2 h3 hd => by
    refine bodyPost_ret (told_results h2 h3 c0 c1 c2) hd ⟨some ⟨w.heap.size + 1, 0, none⟩, A, B, R1, R2, rfl, HT.out.1, HT.out.2, HI9.out, HA9.out.mono' (by omega), HB9.out.mono' (by omega), HK9.out⟩
  exact key _ rfl rfl rfl
theorem meeting_odd (w : World) : Calls Try.prog 48 #[.string ⟨#[111, 100, 100]⟩] w fun e w' => e = .returned (.iface 69 (.agg #[.slice (some ⟨w.heap.size, 0, none⟩) 4 4, .func (.func 73) #[] #[]])) ∧ w' = w.alloc (.cells #[.int .i64 0, .int .i64 1, .int .i64 0, .int .i64 1] 3) := by
  go_enter Try.func48, Try.ntmps48
  go_wp2
  go_ret
  exact ⟨rfl, rfl⟩
set_option maxHeartbeats 4000000 in
theorem iRulesOf_odd (w : World) : Calls Try.prog 18 #[.string ⟨#[111, 100, 100]⟩] w (RulesTold w 4 [0, 1, 0, 1] (lsII [[0, 1, 0, 0], [1, 0, 1, 1], [2, 3, 2, 2], [2, 3, 3, 3]]) (lsII [[2, 3, 2, 2], [3, 2, 3, 3], [0, 1, 2, 3], [0, 1, 2, 3]])) := by
  have HB1 := Lib.hid ((Blk.new w #[.slice none 0 0, .slice none 0 0, .slice none 0 0] 26).keeps (Keeps.alloc _ (.cells #[.int .i64 0, .int .i64 1, .int .i64 0, .int .i64 1] 3)))
  have HI1 : Hid (Ints ((w.alloc (.cells #[.slice none 0 0, .slice none 0 0, .slice none 0 0] 26)).alloc (.cells #[.int .i64 0, .int .i64 1, .int .i64 0, .int .i64 1] 3)) (some ⟨w.heap.size + 1, 0, none⟩) 4 (lsI [0, 1, 0, 1])) := Lib.hid (by
    have h := ints_of (l := [0, 1, 0, 1]) (Blk.new (w.alloc (.cells #[.slice none 0 0, .slice none 0 0, .slice none 0 0] 26)) #[.int .i64 0, .int .i64 1, .int .i64 0, .int .i64 1] 3)
    rw [World.size_alloc] at h
    exact h)
  have HK1 := Lib.hid ((Keeps.alloc w (.cells #[.slice none 0 0, .slice none 0 0, .slice none 0 0] 26)).step (Keeps.alloc _ (.cells #[.int .i64 0, .int .i64 1, .int .i64 0, .int .i64 1] 3)))
  have HZ1 : Hid (((w.alloc (.cells #[.slice none 0 0, .slice none 0 0, .slice none 0 0] 26)).alloc (.cells #[.int .i64 0, .int .i64 1, .int .i64 0, .int .i64 1] 3)).heap.size = w.heap.size + 2) := Lib.hid (by simp)
  go_enter Try.func18, Try.ntmps18
  go_wp2_with fail
  refine (meeting_odd _).mono ?_
  rintro e w1 ⟨rfl, rfl⟩
  rw [World.size_alloc]
  generalize ((w.alloc (.cells #[.slice none 0 0, .slice none 0 0, .slice none 0 0] 26)).alloc (.cells #[.int .i64 0, .int .i64 1, .int .i64 0, .int .i64 1] 3)) = w2 at *
  go_wp2_with fail
  refine (rulesT_any 73 (some ⟨w.heap.size + 1, 0, none⟩) 4 4 (lsII [[0, 1, 0, 0], [1, 0, 1, 1], [2, 3, 2, 2], [2, 3, 3, 3]]) (lsII [[2, 3, 2, 2], [3, 2, 3, 3], [0, 1, 2, 3], [0, 1, 2, 3]]) w2 (by omega) (by omega) (fun _ _ => rfl) (fun a b W h1 h2 => (meet4_any a b h1 h2 W).mono (fun e w9 h => ⟨h.1, by rw [← h.2]; exact Keeps.refl _⟩))).mono ?_
  rintro e w3 ⟨A, B, R1, R2, rfl, ht1, ht2, hc1, hc2, hk3⟩
  have HB3 := Lib.hid (HB1.out.keeps hk3)
  have HC1 : Hid (Crn w3 (w.heap.size + 2) A 4 R1) := Lib.hid (by rw [← HZ1.out]; exact hc1)
  have HC2 : Hid (Crn w3 (w.heap.size + 2) B 4 R2) := Lib.hid (by rw [← HZ1.out]; exact hc2)
  have HI3 := Lib.hid (HI1.out.keeps hk3)
  have HK3 := Lib.hid (HK1.out.step hk3)
  have HT := Lib.hid (And.intro ht1 ht2)
  have hwz := HB3.out.lt
  have e0 : w3.cell? ⟨w.heap.size, 0, none⟩ = some (.slice none 0 0) := HB3.out.cell 0
  have e1 : w3.cell? ⟨w.heap.size, 1, none⟩ = some (.slice none 0 0) := HB3.out.cell 1
  have e2 : w3.cell? ⟨w.heap.size, 2, none⟩ = some (.slice none 0 0) := HB3.out.cell 2
  have f0 := HB3.out.frozen 0
  have f1 := HB3.out.frozen 1
  have f2 := HB3.out.frozen 2
  clear hc1 hc2 hk3 ht1 ht2 HB1 HI1 HK1 HZ1
  go_wp2
  have y1 := ((HB3.out.set 0 (.slice (some ⟨w.heap.size + 1, 0, none⟩) 4 4)).set 1 (.slice A 4 4)).set 2 (.slice B 4 4)
  have c0 : (((w3.setCell ⟨w.heap.size, 0, none⟩ (.slice (some ⟨w.heap.size + 1, 0, none⟩) 4 4)).setCell ⟨w.heap.size, 1, none⟩ (.slice A 4 4)).setCell ⟨w.heap.size, 2, none⟩ (.slice B 4 4)).cell? ⟨w.heap.size, 0, none⟩ = some (.slice (some ⟨w.heap.size + 1, 0, none⟩) 4 4) := y1.cell 0
  have c1 : (((w3.setCell ⟨w.heap.size, 0, none⟩ (.slice (some ⟨w.heap.size + 1, 0, none⟩) 4 4)).setCell ⟨w.heap.size, 1, none⟩ (.slice A 4 4)).setCell ⟨w.heap.size, 2, none⟩ (.slice B 4 4)).cell? ⟨w.heap.size, 1, none⟩ = some (.slice A 4 4) := y1.cell 1
  have c2 : (((w3.setCell ⟨w.heap.size, 0, none⟩ (.slice (some ⟨w.heap.size + 1, 0, none⟩) 4 4)).setCell ⟨w.heap.size, 1, none⟩ (.slice A 4 4)).setCell ⟨w.heap.size, 2, none⟩ (.slice B 4 4)).cell? ⟨w.heap.size, 2, none⟩ = some (.slice B 4 4) := y1.cell 2
  have HA9 := Lib.hid (((HC1.out.low (r := w.heap.size) (by omega) 0 (.slice (some ⟨w.heap.size + 1, 0, none⟩) 4 4)).low (r := w.heap.size) (by omega) 1 (.slice A 4 4)).low (r := w.heap.size) (by omega) 2 (.slice B 4 4))
  have HB9 := Lib.hid (((HC2.out.low (r := w.heap.size) (by omega) 0 (.slice (some ⟨w.heap.size + 1, 0, none⟩) 4 4)).low (r := w.heap.size) (by omega) 1 (.slice A 4 4)).low (r := w.heap.size) (by omega) 2 (.slice B 4 4))
  have HK9 := Lib.hid (((HK3.out.setCell (p := ⟨w.heap.size, 0, none⟩) (Nat.le_refl _) (.slice (some ⟨w.heap.size + 1, 0, none⟩) 4 4)).setCell (p := ⟨w.heap.size, 1, none⟩) (Nat.le_refl _) (.slice A 4 4)).setCell (p := ⟨w.heap.size, 2, none⟩) (Nat.le_refl _) (.slice B 4 4))
  have HI9 := Lib.hid (((HI3.out.other (r := w.heap.size) (by omega) 0 (.slice (some ⟨w.heap.size + 1, 0, none⟩) 4 4)).other (r := w.heap.size) (by omega) 1 (.slice A 4 4)).other (r := w.heap.size) (by omega) 2 (.slice B 4 4))
  clear y1
  generalize (((w3.setCell ⟨w.heap.size, 0, none⟩ (.slice (some ⟨w.heap.size + 1, 0, none⟩) 4 4)).setCell ⟨w.heap.size, 1, none⟩ (.slice A 4 4)).setCell ⟨w.heap.size, 2, none⟩ (.slice B 4 4)) = W at *
  have key : ∀ a : Act, a.tmps[2]? = some (.pointer (some ⟨w.heap.size, 0, none⟩)) → a.tmps[3]? = some (.bool true) → a.defers = [] → bodyPost Try.prog Try.f18 (RulesTold w 4 [0, 1, 0, 1] (lsII [[0, 1, 0, 0], [1, 0, 1, 1], [2, 3, 2, 2], [2, 3, 3, 3]]) (lsII [[2, 3, 2, 2], [3, 2, 3, 3], [0, 1, 2, 3], [0, 1, 2, 3]])) Exit.ret a W := fun a h2 h3 hd => by
    refine bodyPost_ret (told_results h2 h3 c0 c1 c2) hd ⟨some ⟨w.heap.size + 1, 0, none⟩, A, B, R1, R2, rfl, HT.out.1, HT.out.2, HI9.out, HA9.out.mono' (by omega), HB9.out.mono' (by omega), HK9.out⟩
  exact key _ rfl rfl rfl
end Go.Proofs.Ytaejakejnllimaa
