/-
  The reference's queue of lists: a slice of lists that begins anywhere in a block of the call's own; its head is cut off, and one is appended. No condition but bounds on lengths.
-/
import Derived.Test.YtaejakejnllimaaComp
import Derived.Test.YtaejakejnllimaaNextI
import Derived.ArgAppend
namespace Go.Proofs.Ytaejakejnllimaa
set_option maxRecDepth 100000
set_option linter.unusedVariables false
open Go.RowKit

/-- The call's own slice of n lists from place off of block g on. -/
def SubQ (w : World) (lo g off n c : Nat) (T : List Hdr) : Prop :=
  lo ≤ g ∧ n ≤ c ∧ c ≤ 9223372036854775807 ∧ T.length = n ∧ ∃ cs : Array Value, Blk w g 23 cs ∧ off + c ≤ cs.size ∧ ∀ i, i < n → cs[off + i]? = some (T.getD i default).v
section
variable {w w' : World} {lo g off n c : Nat} {T : List Hdr}
theorem SubQ.new (w : World) (lo : Nat) (x : Hdr) (h : lo ≤ w.heap.size) : SubQ (w.alloc (.cells #[x.v] 23)) lo w.heap.size 0 1 1 [x] :=
  ⟨h, Nat.le_refl _, by omega, rfl, _, Blk.new w _ _, by simp, fun i hi => by
    have : i = 0 := by omega
    subst this
    rfl⟩
theorem SubQ.keeps (h : SubQ w lo g off n c T) (k : Keeps w w') : SubQ w' lo g off n c T := by
  obtain ⟨h1, h2, h3, h4, cs, h5, h6⟩ := h
  exact ⟨h1, h2, h3, h4, cs, h5.keeps k, h6⟩
theorem SubQ.cell (h : SubQ w lo g off n c T) (i : Nat) (hi : i < n) : w.cell? ⟨g, off + i, none⟩ = some (T.getD i default).v := by
  obtain ⟨h1, h2, h3, h4, cs, h5, h6, h7⟩ := h
  rw [h5.cell]
  exact h7 i hi
theorem SubQ.blk (h : SubQ w lo g off n c T) : ∃ cs, Blk w g 23 cs := by
  obtain ⟨h1, h2, h3, h4, cs, h5, h6⟩ := h
  exact ⟨cs, h5⟩
theorem SubQ.lt (h : SubQ w lo g off n c T) : g < w.heap.size := h.2.2.2.2.choose_spec.1.lt
theorem SubQ.cap (h : SubQ w lo g off n c T) : n ≤ c ∧ c ≤ 9223372036854775807 := ⟨h.2.1, h.2.2.1⟩
theorem SubQ.len (h : SubQ w lo g off n c T) : T.length = n := h.2.2.2.1
theorem SubQ.pop {v : Hdr} {m d : Nat} (h : SubQ w lo g off (m + 1) (d + 1) (v :: T)) : SubQ w lo g (off + 1) m d T := by
  obtain ⟨h1, h2, h3, h4, cs, h5, h6, h7⟩ := h
  refine ⟨h1, by omega, by omega, by simpa using h4, cs, h5, by omega, fun i hi => ?_⟩
  have := h7 (i + 1) (by omega)
  rw [show off + 1 + i = off + (i + 1) by omega, this]
  simp
theorem SubQ.pop0 {v : Hdr} (h : SubQ w lo g off 1 1 (v :: T)) : SubQ w lo g off 0 0 T := by
  obtain ⟨h1, h2, h3, h4, cs, h5, h6, h7⟩ := h
  exact ⟨h1, by omega, by omega, by simpa using h4, cs, h5, by omega, fun i hi => absurd hi (Nat.not_lt_zero _)⟩
end
/-- 'q = append(q, x)'. -/
theorem wp_app_subq {ops : Array Oper} {rest : List Oper} {o : Oper} {a : Act} {Q : Exit → Act → World → Prop}
    (hgd : o.guard = none) (s y : Operand) (ho : o.op = .call { callee := .builtin .append, args := #[s, y], argTypes := #[24, 24] })
    (lo g off n c : Nat) (l : List Hdr) (w : World) (hs : a.eval s = .slice (some ⟨g, off, none⟩) n c) (hown : SubQ w lo g off n c l)
    (x : Hdr) (v : Value) (hv : v = x.v) (b0 : Nat) (hx : a.eval y = .slice (some ⟨b0, 0, none⟩) 1 1) (hb0 : b0 = w.heap.size) (hn : n + 1 ≤ 1099511627776) (hbase : lo ≤ w.heap.size)
    (h : ∀ (g' off' c' : Nat) (w' : World), SubQ w' lo g' off' (n + 1) c' (l ++ [x]) → w.grownBy w' (some g) → (g' = g ∨ w.heap.size ≤ g') → wpList Try.prog ops Q rest (a.put o.dst (.slice (some ⟨g', off', none⟩) (n + 1) c')) w') :
    wpList Try.prog ops Q (o :: rest) a (w.alloc (.cells #[v] 23)) := by
  subst hb0
  subst hv
  obtain ⟨i0, hi, hz0, hz1, hz2⟩ := info_parts info_ints
  obtain ⟨h1, h2, h3, h4, cs, h5, h6, h7⟩ := hown
  have hk := Keeps.alloc w (.cells #[x.v] 23)
  have h5' := h5.keeps hk
  have glt := h5.lt
  have hnews : ∀ (j : Nat) (u : Value), ([x.v] : List Value)[j]? = some u → (w.alloc (.cells #[x.v] 23)).cell? ((⟨w.heap.size, 0, none⟩ : Addr).add j) = some u := cell_one_new w _ _
  refine wpList_plain hgd fun K hK' => ?_
  by_cases hroom : n + 1 ≤ c
  · have hrun := run_append_room_cells (P := Try.prog) (w.alloc (.cells #[x.v] 23)) 24 o.type 23 i0 Try.underlying24 hi g off n c ⟨w.heap.size, 0, none⟩ 1 1 [x.v] (by rw [hz1]; rfl) hnews (by simp; rfl) hroom
      (fun j hj => by
        simp at hj; subst hj
        rw [hz1, h5'.cell]
        simp; omega) (fun j _ => h5'.frozen _)
    rw [hz1, Nat.mul_one] at hrun
    unfold Oper.wp
    simp [execOp, ho, resolve, invoke, builtin, hs, hx, hrun, Result.andThen]
    refine hK' _ _ (h g off c _ ⟨h1, hroom, h3, by simp [h4], _, h5'.set (off + n) x.v, by simpa using h6, fun i hi' => ?_⟩ ?_ (.inl rfl))
    · by_cases e : i = n
      · subst e
        rw [Array.getElem?_setIfInBounds_self_of_lt (by omega), List.getD_eq_getElem?_getD, List.getElem?_append_right (by omega)]
        simp [h4]
      · rw [Array.getElem?_setIfInBounds_ne (by omega), h7 i (by omega), List.getD_eq_getElem?_getD, List.getD_eq_getElem?_getD, List.getElem?_append_left (by omega)]
    · have g1 := grown_set (w.alloc (.cells #[x.v] 23)) g (off + n) x.v
      exact ⟨g1.os, g1.tape, g1.output, Nat.le_trans hk.size g1.size, fun i hi' hne => (g1.block i (Nat.lt_of_lt_of_le hi' hk.size) hne).trans (hk.block i hi')⟩
  · obtain ⟨v', w', hrun, hown', hg'⟩ := run_append_arg_grows (P := Try.prog) (w.alloc (.cells #[x.v] 23)) 24 o.type 23 i0 _ 1 24 Try.underlying24 hi hz0 hz1 hz2 rfl (by decide) ⟨g, off, none⟩ n c (l.map Hdr.v) (by simp [h4])
      (fun j u hj => by
        have hj' : j < n := by
          have := (List.getElem?_eq_some_iff.1 hj).1
          simp [h4] at this
          omega
        rw [Addr.add_lit, h5'.cell, h7 j hj', ← hj]
        simp [show j < l.length by omega]) ⟨w.heap.size, 0, none⟩ 1 1 [x.v] rfl hnews (by omega) (by unfold maxLen; omega) (by omega)
    unfold Oper.wp
    simp [execOp, ho, resolve, invoke, builtin, hs, hx, hrun, Result.andThen]
    rcases hown'.2 with ⟨_, h0⟩ | ⟨g', cap, cur, rfl, hge, hb, hle, hmx, hsz, htk⟩
    · omega
    · have hge' : w.heap.size ≤ g' := Nat.le_trans hk.size hge
      refine hK' _ _ (h g' 0 cap w' ⟨Nat.le_trans hbase hge', hle, by unfold maxLen at hmx; omega, by simp [h4], cur, hb, by omega, fun i hi' => ?_⟩ ?_ (.inr hge'))
      · rw [Nat.zero_add]
        have e1 : cur.toList[i]? = (cur.toList.take ((n + 1) * 1))[i]? := by rw [List.getElem?_take_of_lt (by omega)]
        rw [← Array.getElem?_toList, e1]
        have e2 := congrArg (fun (t : List Value) => t[i]?) htk
        (try dsimp only at e2)
        first | rw [e2] | (have e3 : (l.map Hdr.v ++ [x.v]).length = n + 1 := by simp [h4]
                           simp [h4] at e2 ⊢
                           rw [e2])
        rw [show (l.map Hdr.v ++ [x.v]) = (l ++ [x]).map (Hdr.v) by simp, List.getElem?_map, List.getD_eq_getElem?_getD]
        cases hh : (l ++ [x])[i]? with
        | none => rw [List.getElem?_eq_none_iff] at hh; simp [h4] at hh; omega
        | some u => rfl
      · exact ⟨hg'.os, hg'.tape, hg'.output, Nat.le_trans hk.size hg'.size, fun i hi' _ => (hg'.block i (Nat.lt_of_lt_of_le hi' hk.size) (by simp)).trans (hk.block i hi')⟩
end Go.Proofs.Ytaejakejnllimaa
