/-
  The contracts of the exact laws' words on [][]int: toIntSS, szIntSS, markIntSS, heldIntSS. Conditions: bounds on lengths and numbers.
-/
import Derived.Test.YtknmbhlkppikpaaExact
namespace Go.Proofs.Ytknmbhlkppikpaa
open Go.RowKit

/-- The blocks ahead of lo, and those from hi on that were there, are as they were. -/
def Mid (lo hi : Nat) (w w' : World) : Prop := w'.os = w.os ∧ w'.tape = w.tape ∧ w'.output = w.output ∧ w.heap.size ≤ w'.heap.size ∧ ∀ i, i < w.heap.size → (i < lo ∨ hi ≤ i) → w'.heap[i]? = w.heap[i]?
theorem Mid.refl (lo hi : Nat) (w : World) : Mid lo hi w w := ⟨rfl, rfl, rfl, Nat.le_refl _, fun _ _ _ => rfl⟩
theorem Mid.step {lo hi : Nat} {w w1 w2 : World} (h : Mid lo hi w w1) (k : Mid lo hi w1 w2) : Mid lo hi w w2 :=
  ⟨k.1.trans h.1, k.2.1.trans h.2.1, k.2.2.1.trans h.2.2.1, Nat.le_trans h.2.2.2.1 k.2.2.2.1, fun i hi hn => (k.2.2.2.2 i (Nat.lt_of_lt_of_le hi h.2.2.2.1) hn).trans (h.2.2.2.2 i hi hn)⟩
theorem Mid.size {lo hi : Nat} {w w' : World} (h : Mid lo hi w w') : w.heap.size ≤ w'.heap.size := h.2.2.2.1
theorem Mid.ofKeeps {lo hi : Nat} {w w' : World} (h : Keeps w w') : Mid lo hi w w' := ⟨h.os, h.tape, h.output, h.size, fun i hi _ => h.block i hi⟩
theorem Mid.ofGrown {lo hi : Nat} {w w' : World} {row : Option Nat} (h : w.grownBy w' row) (hr : ∀ d, row = some d → lo ≤ d ∧ d < hi) : Mid lo hi w w' := ⟨h.os, h.tape, h.output, h.size, fun i hi hn => h.block i hi (fun e => by have := hr i e.symm; omega)⟩
theorem Mid.wide {lo hi lo' hi' : Nat} {w w' : World} (h : Mid lo hi w w') (h1 : lo' ≤ lo) (h2 : hi ≤ hi') : Mid lo' hi' w w' := ⟨h.1, h.2.1, h.2.2.1, h.2.2.2.1, fun i hi hn => h.2.2.2.2 i hi (by omega)⟩
theorem Mid.cell {lo hi : Nat} {w w' : World} (h : Mid lo hi w w') {a : Addr} {v : Value} (hc : w.cell? a = some v) (hn : a.block < lo ∨ hi ≤ a.block) : w'.cell? a = some v := by
  rw [← hc]
  exact World.cell?_of_block (h.2.2.2.2 _ (World.block_lt_of_cell? w _ hc) hn)
theorem Mid.own {lo hi : Nat} {w w' : World} (h : Mid lo hi w w') {l n c s m : Nat} {E : TypeId} {A : Option Addr} {xs : List Value} (o : w.ownsRow l E s (.slice A n c) m xs) (hn : ∀ k, A.map (·.block) = some k → k < lo ∨ hi ≤ k) : w'.ownsRow l E s (.slice A n c) m xs := by
  refine ⟨o.1, ?_⟩
  rcases o.2 with h2 | ⟨g, cap, cur, e, hb, hg, rest⟩
  · exact .inl h2
  · refine .inr ⟨g, cap, cur, e, hb, ?_, rest⟩
    have hA : A = some ⟨g, 0, none⟩ := by cases e; rfl
    rw [h.2.2.2.2 g (Array.getElem?_eq_some_iff.1 hg).1 (hn g (by rw [hA]; rfl))]
    exact hg
theorem Mid.ints {lo hi : Nat} {w w' : World} (h : Mid lo hi w w') {l n c : Nat} {A : Option Addr} {L : List Int} (o : OwnInts w l A n c L) (hn : ∀ k, A.map (·.block) = some k → k < lo ∨ hi ≤ k) : OwnInts w' l A n c L := h.own o hn
theorem Mid.keeps {lo hi : Nat} {w0 w w' : World} (h : Mid lo hi w w') (k : Keeps w0 w) (hl : w0.heap.size ≤ lo) : Keeps w0 w' :=
  ⟨h.1.trans k.os, h.2.1.trans k.tape, h.2.2.1.trans k.output, Nat.le_trans k.size h.size, fun i hi => (h.2.2.2.2 i (Nat.lt_of_lt_of_le hi k.size) (.inl (by omega))).trans (k.block i hi)⟩

/-- Values of a function, as a list. -/
def rl (n : Nat) (f : Nat → Value) : List Value := (List.range n).map f
theorem rl_set (n : Nat) (f : Nat → Value) (p : Nat) (v : Value) : (rl n f).set p v = rl n (fun i => if i = p then v else f i) := by
  apply List.ext_getElem
  · simp [rl]
  · intro i h1 h2
    simp [rl, List.getElem_set]
    by_cases e : p = i
    · subst e; simp
    · rw [if_neg e, if_neg (fun h => e h.symm)]
theorem rl_congr (n : Nat) (f f' : Nat → Value) (h : ∀ i, i < n → f i = f' i) : rl n f = rl n f' := by
  unfold rl
  apply List.map_congr_left
  intro i hi
  exact h i (by simpa using hi)
theorem rl_get (n : Nat) (f : Nat → Value) (i : Nat) (h : i < n) : (rl n f)[i]? = some (f i) := by simp [rl, h]
/-- The call's own [][]int: n rows, row i at A i, of Ln i ints X i; no two rows in the same block. -/
structure OwnMat (w : World) (lo : Nat) (A0 : Option Addr) (n c0 : Nat) (A : Nat → Option Addr) (Ln Cp : Nat → Nat) (X : Nat → Nat → Int) : Prop where
  top : w.ownsRow lo 22 1 (.slice A0 n c0) n (rl n fun i => .slice (A i) (Ln i) (Cp i))
  row : ∀ i, i < n → OwnInts w lo (A i) (Ln i) (Cp i) (il (Ln i) (X i))
  apart : ∀ i j, i < n → j < n → ∀ d, (A i).map (·.block) = some d → (A j).map (·.block) = some d → i = j
section
variable {w w' : World} {lo lo' n c0 : Nat} {A0 : Option Addr} {A : Nat → Option Addr} {Ln Cp : Nat → Nat} {X : Nat → Nat → Int}
theorem OwnMat.keeps (h : OwnMat w lo A0 n c0 A Ln Cp X) (k : Keeps w w') : OwnMat w' lo A0 n c0 A Ln Cp X :=
  ⟨own_keeps h.top k, fun i hi => (h.row i hi).keeps k, h.apart⟩
theorem OwnMat.mono (h : OwnMat w lo A0 n c0 A Ln Cp X) (hl : lo' ≤ lo) : OwnMat w lo' A0 n c0 A Ln Cp X := by
  refine ⟨⟨h.top.1, ?_⟩, fun i hi => (h.row i hi).mono hl, h.apart⟩
  rcases h.top.2 with h2 | ⟨g, cap, cur, e, hg, r⟩
  · exact .inl h2
  · exact .inr ⟨g, cap, cur, e, Nat.le_trans hl hg, r⟩
theorem OwnMat.mid {l1 hi : Nat} (h : OwnMat w lo A0 n c0 A Ln Cp X) (m : Mid l1 hi w w') (h0 : ∀ k, A0.map (·.block) = some k → k < l1 ∨ hi ≤ k) (h1 : ∀ i, i < n → ∀ k, (A i).map (·.block) = some k → k < l1 ∨ hi ≤ k) : OwnMat w' lo A0 n c0 A Ln Cp X :=
  ⟨m.own h.top h0, fun i hi => m.ints (h.row i hi) (h1 i hi), h.apart⟩
theorem OwnMat.at (h : OwnMat w lo A0 n c0 A Ln Cp X) (hn : 1 ≤ n) : ∃ g, A0 = some ⟨g, 0, none⟩ := by
  rcases h.top.2 with ⟨_, h0⟩ | ⟨g, cap, cur, e, _⟩
  · omega
  · cases e; exact ⟨g, rfl⟩
theorem OwnMat.cell {g : Nat} (h : OwnMat w lo (some ⟨g, 0, none⟩) n c0 A Ln Cp X) (i : Nat) (hi : i < n) : w.cell? ⟨g, i, none⟩ = some (.slice (A i) (Ln i) (Cp i)) := by
  rw [h.top.cellAt i (by omega)]
  exact rl_get n _ i hi
theorem OwnMat.rows (h : OwnMat w lo A0 n c0 A Ln Cp X) : Rows w A0 n (fun i => (A i, Ln i, Cp i)) X := fun i hi => by
  obtain ⟨g, rfl⟩ := h.at (by omega)
  exact ⟨⟨g, 0, rfl, by rw [Nat.zero_add]; exact h.cell i hi⟩, fun j hj => by
    obtain ⟨b, off, e, hc⟩ := (h.row i hi).ints j hj
    exact ⟨b, off, e, by dsimp only at hc; rw [il_getD _ _ _ hj] at hc; exact hc⟩⟩
theorem OwnMat.blo (h : OwnMat w lo A0 n c0 A Ln Cp X) : ∀ k, A0.map (·.block) = some k → lo ≤ k ∧ k < w.heap.size := own_block h.top
theorem OwnMat.rblo (h : OwnMat w lo A0 n c0 A Ln Cp X) (i : Nat) (hi : i < n) : ∀ k, (A i).map (·.block) = some k → lo ≤ k ∧ k < w.heap.size := own_block (h.row i hi)
end
theorem mat_set {w : World} {lo n c0 b : Nat} {A0 : Option Addr} {A : Nat → Option Addr} {Ln Cp : Nat → Nat} {X : Nat → Nat → Int} {T : TypeId} {cs : Array Value} (h : OwnMat w lo A0 n c0 A Ln Cp X) (hb : Blk w b T cs) (hT : T ≠ 3) (hT2 : T ≠ 22) (o : Nat) (v : Value) : OwnMat (w.setCell ⟨b, o, none⟩ v) lo A0 n c0 A Ln Cp X :=
  ⟨own_kept h.top (grown_set w b o v) (own_other h.top hb hT2), fun i hi => (h.row i hi).grown (grown_set w b o v) hb hT, h.apart⟩
theorem info_ints' : (Try.prog.info? 22).map (fun i => (i.zero, i.size, i.bytes)) = some (some (.slice none 0 0), 1, 24) := by kernel_rfl
/-- 'make([][]int, n)' in whatever world. -/
theorem make_rows_n (n : Nat) (hn : n ≤ 1099511627776) (w : World) : (Instr.makeSlice 23 (.int .i64 n) (.int .i64 n)).run Try.prog w = .ok (.slice (some ⟨w.heap.size, 0, none⟩) n n) (w.alloc (.cells (madeCells #[.slice none 0 0] n) 22)) :=
  run_make_row' (P := Try.prog) 23 22 (.slice none 0 0) 24 Try.underlying23 info_ints' rfl .i64 .i64 n (by omega) (by omega) w
theorem own_rows_make (w : World) (lo n : Nat) (hlo : lo ≤ w.heap.size) (hn : n ≤ 1099511627776) : (w.alloc (.cells (madeCells #[.slice none 0 0] n) 22)).ownsRow lo 22 1 (.slice (some ⟨w.heap.size, 0, none⟩) n n) n (rl n fun _ => .slice none 0 0) := by
  have h := World.ownsRow_lit (base := lo) (size := 1) (e := 22) w (madeCells #[.slice none 0 0] n) n hlo (by unfold maxLen; omega) (by simp [size_madeCells])
  rw [toList_madeCells_one] at h
  rw [show rl n (fun _ => Value.slice none 0 0) = List.replicate n (.slice none 0 0) from by unfold rl; simp [List.map_const']]
  exact h
theorem own_other_top {w : World} {lo g0 n c g' m : Nat} {L : List Int} {xs : List Value} (h : OwnInts w lo (some ⟨g', 0, none⟩) m m L) (ht : w.ownsRow lo 22 1 (.slice (some ⟨g0, 0, none⟩) n c) n xs) : ∀ k, (some (⟨g', 0, none⟩ : Addr)).map (·.block) = some k → some g0 ≠ some k := by
  intro k hk e
  exact own_type h ht (by decide) k hk (by simpa using e)
set_option maxRecDepth 100000 in
set_option maxHeartbeats 2000000 in
theorem toMat_any (A : Option Addr) (n c : Nat) (r : Nat → Option Addr × Nat × Nat) (x : Nat → Nat → Int) (w : World) (hn : n ≤ 1099511627776) (hr : Rows w A n r x) (hl : ∀ i, i < n → (r i).2.1 ≤ 1099511627776) :
    Calls Try.prog 30 #[.slice A n c] w fun e w' => ∃ (g : Nat) (G : Nat → Nat), e = .returned (.slice (some ⟨g, 0, none⟩) n n) ∧ OwnMat w' w.heap.size (some ⟨g, 0, none⟩) n n (fun i => some ⟨G i, 0, none⟩) (fun i => (r i).2.1) (fun i => (r i).2.1) x ∧ Keeps w w' := by
  have HR := Lib.hid hr
  have HL := Lib.hid hl
  clear hr hl
  have hmk := make_rows_n n hn
  go_enter Try.func30, Try.ntmps30
  go_wp2_with fail
  go_loopw [4] (fun i wr => ∃ (k : Nat) (G : Nat → Nat), k ≤ n ∧ i = .int .i64 k ∧
    Hid (wr.ownsRow w.heap.size 22 1 (.slice (some ⟨w.heap.size, 0, none⟩) n n) n (rl n fun i => if i < k then .slice (some ⟨G i, 0, none⟩) (r i).2.1 (r i).2.1 else .slice none 0 0)) ∧
    Hid (∀ i, i < k → OwnInts wr w.heap.size (some ⟨G i, 0, none⟩) (r i).2.1 (r i).2.1 (il (r i).2.1 (x i))) ∧ Hid (∀ i j, i < k → j < k → G i = G j → i = j) ∧ Keeps w wr) (fun i _ => n - (intOf i).toNat)
  case atStart =>
    refine ⟨0, fun _ => 0, by omega, rfl, Lib.hid ?_, Lib.hid (fun i hi => absurd hi (Nat.not_lt_zero _)), Lib.hid (fun i j hi _ _ => absurd hi (Nat.not_lt_zero _)), Keeps.alloc _ _⟩
    rw [rl_congr n _ (fun _ => .slice none 0 0) (fun i _ => by simp)]
    exact own_rows_make _ _ _ (Nat.le_refl _) hn
  case round =>
    obtain ⟨k, G, hk, rfl, HT, HW, HA, hK⟩ := hrel
    by_cases hlt : k < n
    · have hki : (k : Int) < n := by omega
      obtain ⟨⟨d, off, rfl, hc⟩, hrow⟩ := HR.out.keeps hK k hlt
      have hlk := HL.out k hlt
      have HRK : Hid (r k = ((r k).1, (r k).2.1, (r k).2.2)) := Lib.hid rfl
      have CT := Lib.hid (toInts_any (r k).1 (r k).2.1 (r k).2.2 (x k) wr hlk hrow)
      clear hrow
      go_wp2_with fail
      refine CT.out.mono ?_
      rintro e w1 ⟨g, rfl, hO, hk1⟩
      have HO := Lib.hid hO
      have HTop := Lib.hid (own_keeps HT.out hk1)
      have hcell := HTop.out.cellAt k (by omega)
      rw [rl_get n _ k hlt, if_neg (by omega)] at hcell
      have hfz := HTop.out.frozenAt k
      have HGB := Lib.hid hO.block
      have HST := Lib.hid (HTop.out.stored k (.slice (some ⟨g, 0, none⟩) (r k).2.1 (r k).2.1)).1
      have HG : Hid (w1.grownBy (w1.setCell ⟨w.heap.size, k, none⟩ (.slice (some ⟨g, 0, none⟩) (r k).2.1 (r k).2.1)) (some w.heap.size)) := Lib.hid (grown_set _ _ _ _)
      have HTY : Hid (∀ (g' m : Nat) (L : List Int), OwnInts w1 w.heap.size (some ⟨g', 0, none⟩) m m L → OwnInts (w1.setCell ⟨w.heap.size, k, none⟩ (.slice (some ⟨g, 0, none⟩) (r k).2.1 (r k).2.1)) w.heap.size (some ⟨g', 0, none⟩) m m L) := Lib.hid (fun g' m L h => own_kept h HG.out (own_other_top h HTop.out))
      have HLT : Hid (∀ i, i < k → G i < wr.heap.size) := Lib.hid (fun i hi => (HW.out i hi).block.2)
      have hsz := hK.size
      clear hO
      go_wp2
      go_roundw
      case rel =>
        refine ⟨k + 1, fun i => if i = k then g else G i, by omega, by go_num, Lib.hid ?_, Lib.hid (fun i hi => ?_), Lib.hid (fun i j hi hj e => ?_), Below.setCell (hK.step hk1) (Nat.le_refl _) _⟩
        · have h := HST.out
          rw [rl_set] at h
          rw [rl_congr n _ (fun i => if i = k then .slice (some ⟨g, 0, none⟩) (r k).2.1 (r k).2.1 else if i < k then .slice (some ⟨G i, 0, none⟩) (r i).2.1 (r i).2.1 else .slice none 0 0) (fun i _ => by
            dsimp only
            by_cases h1 : i = k
            · subst h1; simp
            · by_cases h2 : i < k
              · rw [if_pos (by omega), if_neg h1, if_neg h1, if_pos h2]
              · rw [if_neg (by omega), if_neg h1, if_neg h2])]
          exact h
        · by_cases h1 : i = k
          · subst h1
            simp only [if_true]
            exact HTY.out _ _ _ (HO.out.mono hsz)
          · simp only [if_neg h1]
            exact HTY.out _ _ _ ((HW.out i (by omega)).keeps hk1)
        · dsimp only at e
          by_cases h1 : i = k
          · by_cases h2 : j = k
            · rw [h1, h2]
            · rw [if_pos h1, if_neg h2] at e
              have a1 := HLT.out j (by omega)
              have a2 := HGB.out.1
              omega
          · by_cases h2 : j = k
            · rw [if_neg h1, if_pos h2] at e
              have a1 := HLT.out i (by omega)
              have a2 := HGB.out.1
              omega
            · rw [if_neg h1, if_neg h2] at e
              exact HA.out i j (by omega) (by omega) e
      case measure => simp [intOf]; omega
    · obtain rfl : k = n := by omega
      have HFIN : Hid (OwnMat wr w.heap.size (some ⟨w.heap.size, 0, none⟩) k k (fun i => some ⟨G i, 0, none⟩) (fun i => (r i).2.1) (fun i => (r i).2.1) x) := Lib.hid ⟨by
        have h := HT.out
        rwa [rl_congr k _ (fun i => .slice (some ⟨G i, 0, none⟩) (r i).2.1 (r i).2.1) (fun i hi => by rw [if_pos hi])] at h, HW.out, fun i j hi hj d e1 e2 => HA.out i j hi hj (by simp at e1 e2; omega)⟩
      go_wp2
      go_ret
      exact ⟨_, G, rfl, HFIN.out, hK⟩
/-- The first k lengths together. -/
def sumTo (Ln : Nat → Nat) : Nat → Nat
  | 0 => 0
  | k + 1 => sumTo Ln k + Ln k
theorem sumTo_le (Ln : Nat → Nat) (n : Nat) : ∀ k, k ≤ n → sumTo Ln k ≤ sumTo Ln n := by
  induction n with
  | zero => intro k hk; rw [show k = 0 by omega]; exact Nat.le_refl _
  | succ n ih =>
    intro k hk
    by_cases h : k = n + 1
    · rw [h]; exact Nat.le_refl _
    · exact Nat.le_trans (ih k (by omega)) (Nat.le_add_right _ _)
theorem sumTo_one (Ln : Nat → Nat) (n i : Nat) (h : i < n) : Ln i ≤ sumTo Ln n := Nat.le_trans (Nat.le_add_left _ _) (sumTo_le Ln n (i + 1) h)
set_option maxHeartbeats 2000000 in
theorem szMat_any (A : Option Addr) (n c : Nat) (r : Nat → Option Addr × Nat × Nat) (x : Nat → Nat → Int) (left : Int) (w : World) (hn : n ≤ 9223372036854775807) (h0 : 0 ≤ left) (h1 : left ≤ 1048576) (hr : Rows w A n r x) (hl : ∀ i, i < n → (r i).2.1 ≤ 9223372036854775807) :
    Calls Try.prog 26 #[.slice A n c, .int .i64 left] w fun e w' => (∃ v : Int, e = .returned (.int .i64 v) ∧ (v = -1 ∨ (0 ≤ v ∧ v = left - n - (sumTo (fun i => (r i).2.1) n : Nat)))) ∧ w = w' := by
  have HR := Lib.hid hr
  have HL := Lib.hid hl
  clear hr hl
  by_cases hneg : left - n < 0
  · go_enter Try.func26, Try.ntmps26
    go_wp2
    go_ret
    exact ⟨⟨-1, rfl, .inl rfl⟩, rfl⟩
  · have hn2 : n ≤ 1048576 := by omega
    go_enter Try.func26, Try.ntmps26
    go_wp2_with fail
    go_loopw [5, 1] (fun i v wr => ∃ k : Nat, k ≤ n ∧ i = .int .i64 k ∧ v = .int .i64 (left - n - (sumTo (fun i => (r i).2.1) k : Nat)) ∧ Hid (0 ≤ left - n - (sumTo (fun i => (r i).2.1) k : Nat)) ∧ w = wr) (fun i _ _ => n - (intOf i).toNat)
    case atStart => exact ⟨0, by omega, rfl, by simp [sumTo], Lib.hid (by simp [sumTo]; omega), rfl⟩
    case round =>
      obtain ⟨k, hk, rfl, rfl, HP, rfl⟩ := hrel
      by_cases hlt : k < n
      · have hki : (k : Int) < n := by omega
        obtain ⟨⟨d, off, rfl, hc⟩, _⟩ := HR.out k hlt
        have hlk := HL.out k hlt
        have HS := Lib.hid (show sumTo (fun i => (r i).2.1) (k + 1) = sumTo (fun i => (r i).2.1) k + (r k).2.1 from rfl)
        have hp := HP.out
        generalize sumTo (fun i => (r i).2.1) k = s at *
        have CS := Lib.hid (fun w => szInts_any (r k).1 (r k).2.1 (r k).2.2 (left - n - (s : Nat)) w hlk hp (by omega))
        by_cases h2 : left - n - (s : Nat) - (r k).2.1 < 0
        · have HV : Hid (szLeft (r k).2.1 (left - n - (s : Nat)) = -1) := Lib.hid (by unfold szLeft; rw [if_pos h2])
          go_wp2_with fail
          refine (CS.out _).mono ?_
          rintro e w1 ⟨rfl, rfl⟩
          rw [HV.out]
          go_wp2
          go_ret
          exact ⟨⟨-1, rfl, .inl rfl⟩, rfl⟩
        · have HV : Hid (szLeft (r k).2.1 (left - n - (s : Nat)) = left - n - ((sumTo (fun i => (r i).2.1) (k + 1) : Nat) : Int)) := Lib.hid (by unfold szLeft; rw [if_neg h2, HS.out]; omega)
          have HP2 : Hid (0 ≤ left - n - ((sumTo (fun i => (r i).2.1) (k + 1) : Nat) : Int)) := Lib.hid (by rw [HS.out]; omega)
          have hp2 := HP2.out
          generalize hs2 : sumTo (fun i => (r i).2.1) (k + 1) = s2 at *
          have HS2 := Lib.hid hs2
          clear hs2
          go_wp2_with fail
          refine (CS.out _).mono ?_
          rintro e w1 ⟨rfl, rfl⟩
          rw [HV.out]
          go_wp2
          go_roundw
          case rel => exact ⟨k + 1, by omega, by go_num, by rw [HS2.out], Lib.hid (by rw [HS2.out]; exact HP2.out), trivial⟩
          case measure => simp [intOf]; omega
      · obtain rfl : k = n := by omega
        go_wp2
        go_ret
        exact ⟨⟨_, rfl, .inr ⟨HP.out, rfl⟩⟩, rfl⟩
set_option maxHeartbeats 2000000 in
theorem markMat_any (lo hi n c0 : Nat) (A0 : Option Addr) (A : Nat → Option Addr) (Ln Cp : Nat → Nat) (X : Nat → Nat → Int) (k : Int) (w : World) (hn : n ≤ 1048576) (hs : sumTo Ln n ≤ 1048576) (h0 : 0 ≤ k) (h1 : k ≤ 4194304) (hO : OwnMat w lo A0 n c0 A Ln Cp X) (hG : ∀ i, i < n → ∀ d, (A i).map (·.block) = some d → d < hi) :
    Calls Try.prog 17 #[.slice A0 n c0, .int .i64 k] w fun e w' => e = .returned (.int .i64 (k + (sumTo Ln n : Nat))) ∧ OwnMat w' lo A0 n c0 A Ln Cp (fun i j => k + (sumTo Ln i : Nat) + j) ∧ Mid lo hi w w' := by
  have HO := Lib.hid hO
  have HG := Lib.hid hG
  have HSL := Lib.hid (sumTo_le Ln n)
  clear hO hG
  go_enter Try.func17, Try.ntmps17
  go_wp2_with fail
  go_loopw [5, 1] (fun i v wr => ∃ j : Nat, j ≤ n ∧ i = .int .i64 j ∧ v = .int .i64 (k + (sumTo Ln j : Nat)) ∧ Hid (OwnMat wr lo A0 n c0 A Ln Cp (fun i u => if i < j then k + (sumTo Ln i : Nat) + u else X i u)) ∧ Mid lo hi w wr) (fun i _ _ => n - (intOf i).toNat)
  case atStart => exact ⟨0, by omega, rfl, by simp [sumTo], Lib.hid ⟨HO.out.top, fun i hi => by simpa using HO.out.row i hi, HO.out.apart⟩, Mid.refl _ _ _⟩
  case round =>
    clear HO
    obtain ⟨j, hj, rfl, rfl, HM, hMid⟩ := hrel
    by_cases hlt : j < n
    · have hji : (j : Int) < n := by omega
      obtain ⟨g, rfl⟩ := HM.out.at (by omega)
      have hc := HM.out.cell j hlt
      have hlj := sumTo_one Ln n j hlt
      have hsj := HSL.out j hj
      have HS := Lib.hid (show sumTo Ln (j + 1) = sumTo Ln j + Ln j from rfl)
      have HRow := Lib.hid (HM.out.row j hlt)
      have HB := Lib.hid (HM.out.rblo j hlt)
      have H2 : Hid (k + ((sumTo Ln j : Nat) : Int) + (Ln j : Nat) = k + ((sumTo Ln (j + 1) : Nat) : Int)) := Lib.hid (by rw [HS.out]; omega)
      have CM := Lib.hid (markInts_any lo (A j) (Ln j) (Cp j) _ (k + (sumTo Ln j : Nat)) wr (by omega) (by omega) (by omega) HRow.out)
      generalize hsv : sumTo Ln j = s at *
      have HSV := Lib.hid hsv
      clear hsv
      go_wp2_with fail
      refine CM.out.mono ?_
      rintro e w1 ⟨rfl, hO1, hg1⟩
      have HO1 := Lib.hid hO1
      have HG1 := Lib.hid hg1
      have HM1 := Lib.hid (hMid.step (Mid.ofGrown hg1 (fun d hd => ⟨(HB.out d hd).1, HG.out j hlt d hd⟩)))
      clear hO1 hg1 hMid
      go_wp2
      go_roundw
      case rel =>
        refine ⟨j + 1, by omega, by go_num, by rw [H2.out], Lib.hid ⟨own_kept HM.out.top HG1.out (fun b hb e => own_type HM.out.top HRow.out (by decide) b hb e), fun i hi => ?_, HM.out.apart⟩, HM1.out⟩
        by_cases h : i = j
        · subst h
          have h3 := HO1.out
          rw [il_congr (Ln i) (fun u => if i < i + 1 then k + (sumTo Ln i : Nat) + (u : Int) else X i u) (fun u => k + (s : Nat) + (u : Int)) (fun u _ => by rw [if_pos (by omega), HSV.out])]
          exact h3
        · have h3 := own_kept (HM.out.row i hi) HG1.out (fun b hb e => h (HM.out.apart i j hi hlt b hb e))
          rw [il_congr (Ln i) (fun u => if i < j + 1 then k + (sumTo Ln i : Nat) + (u : Int) else X i u) (fun u => if i < j then k + (sumTo Ln i : Nat) + (u : Int) else X i u) (fun u _ => by
            by_cases h4 : i < j
            · rw [if_pos (by omega), if_pos h4]
            · rw [if_neg (by omega), if_neg h4])]
          exact h3
      case measure => simp [intOf]; omega
    · obtain rfl : j = n := by omega
      have HFIN : Hid (OwnMat wr lo A0 j c0 A Ln Cp (fun i u => k + (sumTo Ln i : Nat) + u)) := Lib.hid ⟨HM.out.top, fun i hi => by
        have h3 := HM.out.row i hi
        rw [il_congr (Ln i) (fun u => k + (sumTo Ln i : Nat) + (u : Int)) (fun u => if i < j then k + (sumTo Ln i : Nat) + (u : Int) else X i u) (fun u _ => by rw [if_pos hi])]
        exact h3, HM.out.apart⟩
      go_wp2
      go_ret
      exact ⟨rfl, HFIN.out, hMid⟩
set_option maxHeartbeats 2000000 in
theorem heldMat_any (lo n c0 : Nat) (A0 : Option Addr) (A : Nat → Option Addr) (Ln Cp : Nat → Nat) (k : Int) (w : World) (hn : n ≤ 1048576) (hs : sumTo Ln n ≤ 1048576) (h0 : 0 ≤ k) (h1 : k ≤ 1048576) (hO : OwnMat w lo A0 n c0 A Ln Cp (fun i j => k + (sumTo Ln i : Nat) + j)) :
    Calls Try.prog 18 #[.slice A0 n c0, .int .i64 k] w fun e w' => e = .returned (.int .i64 (k + (sumTo Ln n : Nat))) ∧ Keeps w w' := by
  have HO := Lib.hid hO
  have HSL := Lib.hid (sumTo_le Ln n)
  clear hO
  go_enter Try.func18, Try.ntmps18
  go_wp2_with fail
  go_loopw [5, 1] (fun i v wr => ∃ j : Nat, j ≤ n ∧ i = .int .i64 j ∧ v = .int .i64 (k + (sumTo Ln j : Nat)) ∧ Keeps w wr) (fun i _ _ => n - (intOf i).toNat)
  case atStart => exact ⟨0, by omega, rfl, by simp [sumTo], Keeps.refl _⟩
  case round =>
    obtain ⟨j, hj, rfl, rfl, hK⟩ := hrel
    by_cases hlt : j < n
    · have hji : (j : Int) < n := by omega
      obtain ⟨g, rfl⟩ := HO.out.at (by omega)
      have hc := (HO.out.keeps hK).cell j hlt
      have hlj := sumTo_one Ln n j hlt
      have hsj := HSL.out j hj
      have hsj1 := HSL.out (j + 1) hlt
      have HS := Lib.hid (show sumTo Ln (j + 1) = sumTo Ln j + Ln j from rfl)
      have H2 : Hid (k + ((sumTo Ln j : Nat) : Int) + (Ln j : Nat) = k + ((sumTo Ln (j + 1) : Nat) : Int)) := Lib.hid (by rw [HS.out]; omega)
      have CM := Lib.hid (heldInts_any lo (A j) (Ln j) (Cp j) (k + (sumTo Ln j : Nat)) wr (by omega) (by omega) (by omega) ((HO.out.row j hlt).keeps hK))
      have hge : 0 ≤ k + ((sumTo Ln j : Nat) : Int) + (Ln j : Nat) := by omega
      have hlj2 : k + ((sumTo Ln j : Nat) : Int) + (Ln j : Nat) ≤ 4000000 := by omega
      generalize sumTo Ln j = s at *
      generalize hs2 : sumTo Ln (j + 1) = s2 at *
      have HS2 := Lib.hid hs2
      clear hs2
      go_wp2_with fail
      refine CM.out.mono ?_
      rintro e w1 ⟨rfl, hk1⟩
      go_wp2
      go_roundw
      case rel => exact ⟨j + 1, by omega, by go_num, by rw [H2.out, HS2.out], hK.step hk1⟩
      case measure => simp [intOf]; omega
    · obtain rfl : j = n := by omega
      go_wp2
      go_ret
      exact ⟨rfl, hK⟩
end Go.Proofs.Ytknmbhlkppikpaa
