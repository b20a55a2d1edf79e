/-
  The contract of BrokenBy (the program). No condition.
-/
import Derived.Test.YtepgogaoppdllaaBrokenRec
import Derived.Laws.EntriesVeiled
namespace Go.Proofs.Ytepgogaoppdllaa
open Go.RowKit

/-- Are the arguments valid? -/
def brkOk (n order liar : Int) : Bool := inB n 3 5 && inB order 0 1 && inB liar 0 (n - 1)
/-- What BrokenBy answers. -/
def ansI (n order liar : Int) : Bool × List Int :=
  if brkOk n order liar then (if (fromI n.toNat liar.toNat order (n.toNat - 1) 1 (List.replicate (n.toNat * n.toNat) 0)).1 then fromI n.toNat liar.toNat order (n.toNat - 1) 1 (List.replicate (n.toNat * n.toNat) 0) else (false, [])) else (false, [])
def BrkAns (w : World) (a : Bool × List Int) (e : Ending) (w' : World) : Prop :=
  ∃ A c, e = .returned (.tuple #[.slice A a.2.length c, .bool a.1]) ∧ OwnInts w' w.heap.size A a.2.length c a.2 ∧ Keeps w w'
theorem BrkAns.none {w w' : World} {a : Bool × List Int} (ha : a = (false, [])) (k : Keeps w w') : BrkAns w a (.returned (.tuple #[.slice Option.none 0 0, .bool false])) w' := by
  subst ha
  exact ⟨Option.none, 0, rfl, OwnInts.nil _ _, k⟩
set_option maxHeartbeats 400000 in
theorem bitOk_any (k : Int) (w : World) : Calls Try.prog 54 #[.int .i64 k] w fun e w' => e = .returned (.bool (inB k 0 1)) ∧ w = w' := by
  by_cases h0 : k = 0
  · have e : (k == 0) = true := by simp [h0]
    have HV : Hid (true = inB k 0 1) := Lib.hid (by subst h0; rfl)
    clear h0
    go_enter Try.func54, Try.ntmps54
    go_wp2
    go_ret
    exact ⟨ret_bool HV.out, rfl⟩
  · have e : (k == 0) = false := by simp [h0]
    by_cases h1 : k = 1
    · have e1 : (k == 1) = true := by simp [h1]
      have HV : Hid (true = inB k 0 1) := Lib.hid (by subst h1; rfl)
      clear h0 h1
      go_enter Try.func54, Try.ntmps54
      go_wp2
      go_ret
      exact ⟨ret_bool HV.out, rfl⟩
    · have e1 : (k == 1) = false := by simp [h1]
      have HV : Hid (false = inB k 0 1) := Lib.hid (by rw [inB_not (by omega)])
      clear h0 h1
      go_enter Try.func54, Try.ntmps54
      go_wp2
      go_ret
      exact ⟨ret_bool HV.out, rfl⟩
set_option maxRecDepth 100000 in
set_option maxHeartbeats 4000000 in
theorem brokenBy_any (n order liar : Int) (w : World) :
    Calls Try.prog 20 #[.int .i64 n, .int .i64 order, .int .i64 liar] w (BrkAns w (ansI n order liar)) := by
  have k3 := ((Keeps.alloc w (.cells #[.int .i64 n] 3)).step (Keeps.alloc _ (.cells #[.int .i64 order] 3))).step (Keeps.alloc _ (.cells #[.int .i64 liar] 3))
  cases v1 : inB n 3 5
  · have HV : Hid (ansI n order liar = (false, [])) := Lib.hid (by unfold ansI brkOk; rw [v1]; rfl)
    have V1 := Lib.hid v1
    clear v1
    go_enter Try.func20, Try.ntmps20
    go_wp2_with fail
    refine (within_any _ _ _ _).mono ?_
    rintro e w1 ⟨rfl, rfl⟩
    rw [V1.out]
    go_wp2
    refine bodyPost_ret (v := .tuple #[.slice Option.none 0 0, .bool false]) (by simp [results, Try.results20, go_sem]) rfl (BrkAns.none HV.out k3)
  · have hnv := inB_true v1
    have W0 : IntKind.i64.wrap (n - 1) = n - 1 := by rw [IntKind.wrap_i64]; omega
    clear hnv
    cases v2 : inB order 0 1
    · have HV : Hid (ansI n order liar = (false, [])) := Lib.hid (by unfold ansI brkOk; rw [v1, v2]; rfl)
      have V1 := Lib.hid v1
      have V2 := Lib.hid v2
      clear v1 v2
      go_enter Try.func20, Try.ntmps20
      go_wp2_with fail
      refine (within_any _ _ _ _).mono ?_
      rintro e w1 ⟨rfl, rfl⟩
      rw [V1.out]
      go_wp2_with fail
      refine (bitOk_any _ _).mono ?_
      rintro e w1 ⟨rfl, rfl⟩
      rw [V2.out]
      go_wp2
      refine bodyPost_ret (v := .tuple #[.slice Option.none 0 0, .bool false]) (by simp [results, Try.results20, go_sem]) rfl (BrkAns.none HV.out k3)
    · cases v3 : inB liar 0 (n - 1)
      · have HV : Hid (ansI n order liar = (false, [])) := Lib.hid (by unfold ansI brkOk; rw [v1, v2, v3]; rfl)
        have V1 := Lib.hid v1
        have V2 := Lib.hid v2
        have V3 := Lib.hid v3
        clear v1 v2 v3
        go_enter Try.func20, Try.ntmps20
        go_wp2_with fail
        refine (within_any _ _ _ _).mono ?_
        rintro e w1 ⟨rfl, rfl⟩
        rw [V1.out]
        go_wp2_with fail
        refine (bitOk_any _ _).mono ?_
        rintro e w1 ⟨rfl, rfl⟩
        rw [V2.out]
        go_wp2_with fail
        refine (within_any _ _ _ _).mono ?_
        rintro e w1 ⟨rfl, rfl⟩
        rw [V3.out]
        go_wp2
        refine bodyPost_ret (v := .tuple #[.slice Option.none 0 0, .bool false]) (by simp [results, Try.results20, go_sem]) rfl (BrkAns.none HV.out k3)
      · have hn := inB_true v1
        have ho := inB_true v2
        have hl := inB_true v3
        obtain ⟨n, rfl⟩ := Int.eq_ofNat_of_zero_le (show 0 ≤ n by omega)
        obtain ⟨liar, rfl⟩ := Int.eq_ofNat_of_zero_le (show 0 ≤ liar by omega)
        have HV : Hid (ansI n order liar = if (fromI n liar order (n - 1) 1 (List.replicate (n * n) 0)).1 then fromI n liar order (n - 1) 1 (List.replicate (n * n) 0) else (false, [])) := Lib.hid (by unfold ansI brkOk; rw [v1, v2, v3]; rfl)
        have V1 := Lib.hid v1
        have V2 := Lib.hid v2
        have V3 := Lib.hid v3
        have HO := Lib.hid ho
        have hnn : n * n ≤ 25 := Nat.le_trans (Nat.mul_le_mul (show n ≤ 5 by omega) (show n ≤ 5 by omega)) (by omega)
        have HM : Hid ((n : Int) * (n : Int) = ((n * n : Nat) : Int)) := Lib.hid (by simp)
        have W1 : IntKind.i64.wrap ((n : Int) * (n : Int)) = ((n * n : Nat) : Int) := by rw [IntKind.wrap_i64, HM.out]; omega
        have hmk := make_ints (n * n) (by omega)
        have hf : ∀ (args : Array Value) (w : World), (callFunc 55 args).run Try.prog w = .ok (.enter 55 args) w := fun _ _ => rfl
        obtain ⟨nn, hnne⟩ : ∃ nn, nn = n * n := ⟨_, rfl⟩
        rw [← hnne] at HV hnn HM W1 hmk
        have HNN := Lib.hid hnne
        clear v1 v2 v3 hnne ho
        go_enter Try.func20, Try.ntmps20
        go_wp2_with fail
        refine (within_any _ _ _ _).mono ?_
        rintro e w1 ⟨rfl, rfl⟩
        rw [V1.out]
        go_wp2_with fail
        refine (bitOk_any _ _).mono ?_
        rintro e w1 ⟨rfl, rfl⟩
        rw [V2.out]
        go_wp2_with fail
        refine (within_any _ _ _ _).mono ?_
        rintro e w1 ⟨rfl, rfl⟩
        rw [V3.out]
        go_wp2_with fail
        have q1 := Keeps.alloc w (.cells #[.int .i64 n] 3)
        have q2 := q1.step (Keeps.alloc _ (.cells #[.int .i64 order] 3))
        have q3 := q2.step (Keeps.alloc _ (.cells #[.int .i64 liar] 3))
        have q4 := q3.step (Keeps.alloc _ (.cells (madeCells #[.int .i64 0] nn) 3))
        have q5 := q4.step (Keeps.alloc _ (.cells #[.slice (some ⟨w.heap.size + 1 + 1 + 1, 0, none⟩) nn nn] 23))
        have hBox : Boxes n nn liar nn (w.heap.size + 1 + 1 + 1) w.heap.size (w.heap.size + 1) (w.heap.size + 1 + 1) (w.heap.size + 1 + 1 + 1 + 1) (w.heap.size + 1 + 1 + 1 + 1 + 1) order
            ((((((w.alloc (.cells #[.int .i64 n] 3)).alloc (.cells #[.int .i64 order] 3)).alloc (.cells #[.int .i64 liar] 3)).alloc (.cells (madeCells #[.int .i64 0] nn) 3)).alloc (.cells #[.slice (some ⟨w.heap.size + 1 + 1 + 1, 0, none⟩) nn nn] 23)).alloc (.cells #[.func (.func 55) #[] #[.pointer (some ⟨w.heap.size, 0, none⟩), .pointer (some ⟨w.heap.size + 1, 0, none⟩), .pointer (some ⟨w.heap.size + 1 + 1, 0, none⟩), .pointer (some ⟨w.heap.size + 1 + 1 + 1 + 1, 0, none⟩), .pointer (some ⟨w.heap.size + 1 + 1 + 1 + 1 + 1, 0, none⟩)]] 61)) := by
          refine ⟨?_, ?_, ?_, ?_, ?_⟩
          · exact ((((((Blk.new w #[.int .i64 n] 3).keeps (Keeps.alloc _ _)).keeps (Keeps.alloc _ _)).keeps (Keeps.alloc _ _)).keeps (Keeps.alloc _ _)).keeps (Keeps.alloc _ _)).cell 0
          · exact ((((Blk.keeps (blk_at (by simp) (Blk.new (w.alloc (.cells #[.int .i64 n] 3)) #[.int .i64 order] 3)) (Keeps.alloc _ _)).keeps (Keeps.alloc _ _)).keeps (Keeps.alloc _ _)).keeps (Keeps.alloc _ _)).cell 0
          · exact (((Blk.keeps (blk_at (by simp) (Blk.new ((w.alloc (.cells #[.int .i64 n] 3)).alloc (.cells #[.int .i64 order] 3)) #[.int .i64 liar] 3)) (Keeps.alloc _ _)).keeps (Keeps.alloc _ _)).keeps (Keeps.alloc _ _)).cell 0
          · exact (Blk.keeps (blk_at (by simp) (Blk.new ((((w.alloc (.cells #[.int .i64 n] 3)).alloc (.cells #[.int .i64 order] 3)).alloc (.cells #[.int .i64 liar] 3)).alloc (.cells (madeCells #[.int .i64 0] nn) 3)) #[.slice (some ⟨w.heap.size + 1 + 1 + 1, 0, none⟩) nn nn] 23)) (Keeps.alloc _ _)).cell 0
          · exact (blk_at (by simp) (Blk.new (((((w.alloc (.cells #[.int .i64 n] 3)).alloc (.cells #[.int .i64 order] 3)).alloc (.cells #[.int .i64 liar] 3)).alloc (.cells (madeCells #[.int .i64 0] nn) 3)).alloc (.cells #[.slice (some ⟨w.heap.size + 1 + 1 + 1, 0, none⟩) nn nn] 23)) _ 61)).cell 0
        have hOw := ((own_at (g' := w.heap.size + 1 + 1 + 1) (by simp) (OwnInts.make (((w.alloc (.cells #[.int .i64 n] 3)).alloc (.cells #[.int .i64 order] 3)).alloc (.cells #[.int .i64 liar] 3)) w.heap.size nn (by simp; omega) (by omega))).keeps (Keeps.alloc _ (.cells #[.slice (some ⟨w.heap.size + 1 + 1 + 1, 0, none⟩) nn nn] 23))).keeps (Keeps.alloc _ (.cells #[.func (.func 55) #[] #[.pointer (some ⟨w.heap.size, 0, none⟩), .pointer (some ⟨w.heap.size + 1, 0, none⟩), .pointer (some ⟨w.heap.size + 1 + 1, 0, none⟩), .pointer (some ⟨w.heap.size + 1 + 1 + 1 + 1, 0, none⟩), .pointer (some ⟨w.heap.size + 1 + 1 + 1 + 1 + 1, 0, none⟩)]] 61))
        have q6 := q5.step (Keeps.alloc _ (.cells #[.func (.func 55) #[] #[.pointer (some ⟨w.heap.size, 0, none⟩), .pointer (some ⟨w.heap.size + 1, 0, none⟩), .pointer (some ⟨w.heap.size + 1 + 1, 0, none⟩), .pointer (some ⟨w.heap.size + 1 + 1 + 1 + 1, 0, none⟩), .pointer (some ⟨w.heap.size + 1 + 1 + 1 + 1 + 1, 0, none⟩)]] 61))
        refine (rec_any n nn (n - 1) liar nn (w.heap.size + 1 + 1 + 1) w.heap.size w.heap.size (w.heap.size + 1) (w.heap.size + 1 + 1) (w.heap.size + 1 + 1 + 1 + 1) (w.heap.size + 1 + 1 + 1 + 1 + 1) order HNN.out (by omega) (by omega) (by omega) (by omega) HO.out (by omega) (by omega) (by omega) (by omega) (by omega) (n - 1) 1 (List.replicate nn 0) _ (by omega) hBox hOw (fun i => by simp [List.getElem?_replicate]; split <;> simp)).mono ?_
        rintro e w1 ⟨rfl, hO1, hG1⟩
        have hK1 := hG1.keeps q6 (by omega)
        obtain ⟨_, _, _, d4, _⟩ := hBox.gro hG1 (by omega) (by omega) (by omega) (by omega) (by omega)
        clear hBox hOw q1 q2 q3 q4 q5 q6 hG1
        cases hr : (fromI n liar order (n - 1) 1 (List.replicate nn 0)).1
        · have HV2 : Hid (ansI n order liar = (false, [])) := Lib.hid (by rw [HV.out, hr]; rfl)
          clear hO1 hr
          go_wp2
          refine bodyPost_ret (v := .tuple #[.slice Option.none 0 0, .bool false]) (by simp [results, Try.results20, go_sem]) rfl (BrkAns.none HV2.out hK1)
        · have HV2 : Hid (ansI n order liar = (true, (fromI n liar order (n - 1) 1 (List.replicate nn 0)).2)) := Lib.hid (by rw [HV.out, hr, if_pos rfl]; rw [← hr])
          generalize (fromI n liar order (n - 1) 1 (List.replicate nn 0)).2 = L at *
          have HO1 := Lib.hid hO1
          have HL := Lib.hid hO1.len
          clear hO1 hr
          go_wp2
          refine bodyPost_ret (v := .tuple #[.slice (some ⟨w.heap.size + 1 + 1 + 1, 0, none⟩) nn nn, .bool true]) (by simp [results, Try.results20, go_sem]) rfl ?_
          rw [HV2.out]
          refine ⟨some ⟨w.heap.size + 1 + 1 + 1, 0, none⟩, nn, ?_, ?_, hK1⟩
          · rw [HL.out]
          · show OwnInts w1 w.heap.size _ L.length nn L
            rw [HL.out]
            exact HO1.out
end Go.Proofs.Ytepgogaoppdllaa
