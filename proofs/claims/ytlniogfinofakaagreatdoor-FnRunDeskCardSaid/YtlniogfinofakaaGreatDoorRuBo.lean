/-
  listed of the program: numbers as text, joined. Conditions: at most 2^40 - 1 numbers within int.
-/
import Derived.Test.YtlniogfinofakaaGreatDoorRuAl
import Derived.Test.YtlniogfinofakaaGreatDoorRuAk
import Derived.Test.YtlniogfinofakaaGreatDoorRuBk
import Derived.Test.YtlniogfinofakaaGreatDoorRuBe
namespace Go.Proofs.YtlniogfinofakaaGreatDoor
set_option maxRecDepth 100000
open Go.RowKit Go.Lib
set_option linter.unusedVariables false

def lstT (sep : List UInt8) (L : List Int) : List UInt8 := join (L.map itoa) sep
theorem itoa_20 (v : Int) (h0 : -9223372036854775808 ≤ v) (h1 : v ≤ 9223372036854775807) : (itoa v).length ≤ 21 := by
  have h := nDigits_le20 v.natAbs (by omega)
  have h2 := nDigits_le20 v.toNat (by omega)
  rw [← decDigits_length] at h h2
  unfold itoa
  split
  · rw [List.length_cons]; omega
  · omega
theorem lens_le (b : Nat) (l : List (List UInt8)) (h : ∀ x ∈ l, x.length ≤ b) : Lib.lens l ≤ b * l.length := by
  induction l with
  | nil => exact Nat.zero_le _
  | cons x r ih =>
    have h1 := ih (fun y hy => h y (List.mem_cons_of_mem _ hy))
    have h2 := h x List.mem_cons_self
    have e : Lib.lens (x :: r) = x.length + Lib.lens r := rfl
    rw [e, List.length_cons, Nat.mul_add]
    omega
theorem lstT_len (sep : List UInt8) (L : List Int) (hs : sep.length ≤ 1) (hn : L.length ≤ 1099511627776) (h : ∀ v ∈ L, -9223372036854775808 ≤ v ∧ v ≤ 9223372036854775807) : (lstT sep L).length ≤ 140737488355328 := by
  unfold lstT
  cases L with
  | nil => simp [join_nil]
  | cons v r =>
    rw [List.map_cons, join_length]
    have h1 := lens_le 21 (itoa v :: r.map itoa) (fun x hx => by
      obtain ⟨u, hu, rfl⟩ := List.mem_map.1 (show x ∈ (v :: r).map itoa from hx)
      exact itoa_20 u (h u hu).1 (h u hu).2)
    have h2 : sep.length * (r.map itoa).length ≤ 1 * (r.map itoa).length := Nat.mul_le_mul_right _ hs
    simp only [List.length_cons, List.length_map] at *
    omega
theorem make_strs (n : Nat) (hn : n ≤ 1099511627776) (w : World) : (Instr.makeSlice 22 (.int .i64 0) (.int .i64 n)).run Tryz.prog w = .ok (.slice (some ⟨w.heap.size, 0, none⟩) 0 n) (w.alloc (.cells (madeCells #[.string ⟨#[]⟩] n) 9)) := by
  obtain ⟨i0, hi, hz0, hz1, hz2⟩ := info_parts info_str
  have := run_make (P := Tryz.prog) (w := w) 22 9 i0 _ Tryz.underlying22 hi hz0 .i64 .i64 0 n (by omega) (by omega) (by rw [hz2]; omega) (by omega)
  rw [this, hz1]
  simp
  rfl
theorem listed_any (sep : ByteArray) (a : Option Addr) (n c : Nat) (L : List Int) (w : World) (hsep : sep.size ≤ 1) (hl : L.length = n) (hn : n ≤ 1099511627775) (hI : Ints w a n (fun i => L.getD i 0)) (hL : ∀ v ∈ L, -9223372036854775808 ≤ v ∧ v ≤ 9223372036854775807) (hv : Vars w) :
    Calls Tryz.prog 62 #[.string sep, .slice a n c] w fun e w' => e = .returned (.string ⟨(lstT sep.data.toList L).toArray⟩) ∧ Keeps w w' := by
  have HL := Lib.hid hL
  have HI := Lib.hid hI
  have HV := Lib.hid hv
  have HLL := Lib.hid hl
  have HTL := Lib.hid (lstT_len sep.data.toList L (by simpa using hsep) (by omega) hL)
  clear hL hI hv hl
  have hO0 : OwnStrs (w.alloc (.cells (madeCells #[.string ⟨#[]⟩] n) 9)) w.heap.size (some ⟨w.heap.size, 0, none⟩) 0 n [] := World.ownsRow_made w _ n (Nat.le_refl _) (by unfold maxLen; omega) (by simp [size_madeCells])
  have HO0 := Lib.hid hO0
  clear hO0
  have hmk : ∀ w : World, (Instr.makeSlice 22 (.int .i64 0) (.int .i64 n)).run Tryz.prog w = .ok (.slice (some ⟨w.heap.size, 0, none⟩) 0 n) (w.alloc (.cells (madeCells #[.string ⟨#[]⟩] n) 9)) := fun w => make_strs n (by omega) w
  go_enter Tryz.func62, Tryz.ntmps62
  go_wp2_with fail
  go_loopw [5, 13] (fun o q wr => ∃ (i g cc : Nat), i ≤ n ∧ q = .int .i64 i ∧ o = .slice (some ⟨g, 0, none⟩) i cc ∧ Hid (OwnStrs wr w.heap.size (some ⟨g, 0, none⟩) i cc ((L.take i).map (fun v => (⟨(itoa v).toArray⟩ : ByteArray)))) ∧ Hid (Keeps w wr)) (fun _ q _ => n - (intOf q).toNat)
  case atStart => exact ⟨0, _, _, by omega, rfl, rfl, HO0, Lib.hid (Keeps.alloc _ _)⟩
  case round =>
    clear HO0
    obtain ⟨i, g, cc, hi, rfl, rfl, HO, HK⟩ := hrel
    by_cases hlt : i < n
    · have hii : (i : Int) < n := by omega
      have hIk := HI.out.keeps HK.out
      obtain ⟨d, off, rfl, hcp⟩ := hIk i hlt
      dsimp only at hcp
      have hLi : i < L.length := by rw [HLL.out]; exact hlt
      have hm : L.getD i 0 ∈ L := by
        rw [List.getD_eq_getElem?_getD, List.getElem?_eq_getElem hLi]
        exact List.getElem_mem hLi
      have HTN : Hid ((L.take (i + 1)).map (fun v => (⟨(itoa v).toArray⟩ : ByteArray)) = (L.take i).map (fun v => (⟨(itoa v).toArray⟩ : ByteArray)) ++ [⟨(itoa (L.getD i 0)).toArray⟩]) := Lib.hid (by
        rw [List.take_add_one, List.getElem?_eq_getElem hLi, List.map_append]
        simp [List.getD_eq_getElem?_getD, List.getElem?_eq_getElem hLi])
      have CI := Lib.hid (itoa_any (L.getD i 0) wr (HL.out _ hm).1 (HL.out _ hm).2 (HV.out.keeps HK.out))
      clear hm hIk
      generalize L.getD i 0 = v at *
      obtain ⟨Y, hY⟩ : ∃ Y : ByteArray, Y = ⟨(itoa v).toArray⟩ := ⟨_, rfl⟩
      rw [← hY] at CI HTN
      clear hY
      go_wp2_with fail
      with_reducible refine (CI.out).mono ?_
      rintro e w1 ⟨rfl, hk1⟩
      have HO1 := Lib.hid (HO.out.keeps hk1)
      have HK1 := Lib.hid (HK.out.step hk1)
      have hsz := HK1.out.size
      clear hk1
      go_wp2_with (first | (at_builtin; refine wp_app_str rfl _ _ rfl w.heap.size _ i cc _ _ rfl HO1.out _ rfl (by omega) hsz ?_; intro g6 c6 w6 hO6 hg6))
      go_round
      case rel => exact ⟨i + 1, g6, c6, by omega, by go_num, rfl, Lib.hid (by rw [HTN.out]; exact hO6), Lib.hid (HO1.out.keepsAll HK1.out (Nat.le_refl _) hg6)⟩
      case measure => simp [intOf]; omega
    · obtain rfl : i = n := by omega
      have hlen := HO.out.len
      have ht : L.take i = L := List.take_of_length_le (by rw [HLL.out]; exact Nat.le_refl _)
      have hmm : ((L.map (fun v => (⟨(itoa v).toArray⟩ : ByteArray))).map (fun s : ByteArray => s.data.toList)) = L.map itoa := by
        rw [List.map_map]
        exact List.map_congr_left fun v _ => by simp
      have CJ := Lib.hid (join_any g 0 cc (L.map (fun v => (⟨(itoa v).toArray⟩ : ByteArray))) sep wr (fun j x hx => by
        have h := HO.out
        rw [ht] at h
        have hj : j < L.length := by have := (List.getElem?_eq_some_iff.1 hx).1; simpa using this
        rw [Nat.zero_add, World.ownsRow.cellAt h j (by rw [HLL.out] at hj; omega), List.getElem?_map, hx]
        rfl) (World.ownsRow.lt HO.out _ rfl).2 (by rw [List.length_map, HLL.out]; omega) (by
          rcases HO.out.2 with ⟨e, _⟩ | ⟨g', cap, cur, e, _, _, h4, _⟩
          · cases e
          · cases e; rw [List.length_map, HLL.out]; exact h4) (by rw [hmm]; exact HTL.out))
      rw [hmm, List.length_map, HLL.out] at CJ
      clear hmm ht hlen
      go_wp2_with fail
      with_reducible refine (CJ.out).mono ?_
      rintro e w1 ⟨rfl, hk1⟩
      have HK1 := Lib.hid (HK.out.step hk1)
      clear hk1
      go_wp2_with fail
      go_ret
      exact ⟨rfl, HK1.out⟩
end Go.Proofs.YtlniogfinofakaaGreatDoor
