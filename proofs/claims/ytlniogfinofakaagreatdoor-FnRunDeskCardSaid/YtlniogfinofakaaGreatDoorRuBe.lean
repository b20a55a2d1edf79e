/-
  The contract of the iterator of strings.SplitSeq at a comma. Condition: texts shorter than 2^32 bytes, less a little.
-/
import Derived.Test.YtlniogfinofakaaGreatDoorRuBc
import Derived.Test.YtlniogfinofakaaGreatDoorRuAl
import Derived.Test.YtlniogfinofakaaGreatDoorRuAk
import Derived.Test.YtlniogfinofakaaGreatDoorRuBd
import Derived.RangeFuncBox
import Derived.Deep.AppendLies
namespace Go.Proofs.YtlniogfinofakaaGreatDoor
set_option maxRecDepth 100000
set_option linter.unusedVariables false
open Go.RowKit Go.Lib
attribute [local go_sem] Oper.semAt_some

/-- What is handed over in a round: a piece. -/
def PieceAt (ps : List (List UInt8)) (i : Nat) (v : Value) (W : World) : Prop := ∃ s : ByteArray, v = .string s ∧ s.data.toList = ps.getD i []
def RdSplit (pb vb : Nat) (W : World) : Prop := W.cell? ⟨pb, 0, none⟩ = some (.string ⟨#[44]⟩) ∧ W.cell? ⟨vb, 0, none⟩ = some (.int .i64 0) ∧ Vars W
def boxSize (w : World) (b : Nat) : Nat := match w.cell? ⟨b, 0, none⟩ with
  | some (.string r) => r.size
  | _ => 0
theorem boxSize_of {w : World} {b : Nat} {r : ByteArray} (h : w.cell? ⟨b, 0, none⟩ = some (.string r)) : boxSize w b = r.size := by unfold boxSize; rw [h]
theorem pieces_some {r : ByteArray} {i : Nat} (h : index r.data.toList [44] = i) : i < r.size ∧ splitA 44 [] r.data.toList = (r.extract 0 i).data.toList :: splitA 44 [] (r.extract (i + 1) r.size).data.toList := by
  obtain ⟨h1, h2⟩ := split_some (acc := []) h
  have e : r.data.toList.length = r.size := by simp
  refine ⟨by omega, ?_⟩
  rw [h2, pc_extract, pc_extract]
  unfold pc
  simp only [List.nil_append, List.drop_zero, Nat.sub_zero]
  rw [List.take_of_length_le (l := r.data.toList.drop (i + 1)) (by rw [List.length_drop]; omega)]
theorem drop_cons {α : Type} {P : List (List α)} {k : Nat} {p : List α} {q : List (List α)} (h : P.drop k = p :: q) : k < P.length ∧ P.getD k [] = p ∧ P.drop (k + 1) = q := by
  have hk : k < P.length := by
    rcases Nat.lt_or_ge k P.length with h1 | h1
    · exact h1
    · rw [List.drop_eq_nil_of_le h1] at h; cases h
  rw [List.drop_eq_getElem_cons hk] at h
  injection h with h1 h2
  exact ⟨hk, by rw [List.getD_eq_getElem?_getD, List.getElem?_eq_getElem hk]; exact h1, h2⟩
set_option maxRecDepth 100000 in
set_option maxHeartbeats 4000000 in
theorem split_iter (s : ByteArray) (bs pb vb n₀ : Nat) (hs : s.size < 4294967281) (hne : bs ≠ pb ∧ bs ≠ vb) :
    IterB bs (.cells #[.string s] 9 (0, 0)) (SpareB n₀ bs) 142 #[.pointer (some ⟨pb, 0, none⟩), .pointer (some ⟨bs, 0, none⟩), .pointer (some ⟨vb, 0, none⟩)] (splitA 44 [] s.data.toList).length n₀ (RdSplit pb vb) (PieceAt (splitA 44 [] s.data.toList)) := by
  intro l Y Yx W hW hYk hYr hYy hY0 hbx
  have HYK := Lib.hid hYk
  have HYR := Lib.hid hYr
  have HYY := Lib.hid hYy
  have HN := Lib.hid hne
  obtain ⟨b0, b1, _⟩ := hYr 0 W hY0
  have HY0 := Lib.hid hY0
  have HBX : Hid (Blk W bs 9 #[.string s]) := Lib.hid hbx
  clear hbx
  clear hYk hYr hYy hY0
  obtain ⟨P, hP⟩ : ∃ P, P = splitA 44 [] s.data.toList := ⟨_, rfl⟩
  rw [← hP] at HYY ⊢
  have HP := Lib.hid hP
  clear hP
  refine callsIn_of_wp Tryz.func142 rfl trivial ?_ rfl
  simp only [Tryz.ntmps142, List.size_toArray, List.length_cons, List.length_nil, Nat.reduceAdd, Nat.reduceSub, Array.replicate_succ, Array.replicate_zero, List.push_toArray, List.append_toArray, List.nil_append, List.cons_append]
  gi_wp2
  gi_loopw [7] (fun _ wr => ∃ (k : Nat) (r : ByteArray), r.size ≤ s.size ∧ Hid (Blk wr bs 9 #[.string r]) ∧ Hid (Y k wr) ∧ Hid (P.drop k = splitA 44 [] r.data.toList)) (fun _ wr => boxSize wr bs)
  case atStart => exact ⟨0, s, Nat.le_refl _, HBX, HY0, Lib.hid (by rw [HP.out]; rfl)⟩
  case round =>
    clear HBX b0 b1 HY0
    obtain ⟨k, r, hr, HBX, HY, HD⟩ := hrel
    obtain ⟨b0, b1, hV⟩ := HYR.out _ _ HY.out
    have HV := Lib.hid hV
    have hbx : wr.cell? ⟨bs, 0, none⟩ = some (.string r) := HBX.out.cell 0
    have HBC := Lib.hid hbx
    clear hV
    have CI := Lib.hid (index_any r wr (by omega) HV.out)
    rcases split_at 44 r.data.toList [] with ⟨hx, _⟩ | ⟨i, hx, _⟩
    · rw [hx] at CI
      have HD2 := Lib.hid (drop_cons (HD.out.trans (split_none hx)))
      clear hx
      gi_wp2
      refine ⟨trivial, (callsIn_wide.2 CI.out).mono ?_⟩
      rintro e w1 ⟨rfl, rfl⟩
      obtain ⟨fn, tmps, assign, body, hy, hR⟩ := HYY.out k (.string r) wr HD2.out.1 HY.out ⟨r, rfl, by rw [HD2.out.2.1]; rfl⟩
      have HEND : Hid (k + 1 = P.length) := Lib.hid (by
        have h := HD2.out.2.2
        have h2 := List.drop_eq_nil_iff.1 h
        have := HD2.out.1
        omega)
      gi_wp2
      refine hR.mono ?_
      rintro e W3 (⟨rfl, hY3, hk3⟩ | ⟨rfl, hx3⟩)
      · have HY3 := Lib.hid hY3
        clear hY3 hk3
        gi_wp2
        first | go_end0 | refine bodyPost_ret (results_none rfl _ _ _) rfl ?_ | refine bodyPost_end (results_none rfl _ _ _) rfl ?_
        exact ⟨⟨_, rfl⟩, .inl (by rw [← HEND.out]; exact HY3.out)⟩
      · have HX3 := Lib.hid hx3
        clear hx3
        gi_wp2
        first | go_end0 | refine bodyPost_ret (results_none rfl _ _ _) rfl ?_ | refine bodyPost_end (results_none rfl _ _ _) rfl ?_
        exact ⟨⟨_, rfl⟩, .inr HX3.out⟩
    · rw [hx] at CI
      obtain ⟨hi, hps⟩ := pieces_some hx
      have HD2 := Lib.hid (drop_cons (HD.out.trans hps))
      clear hx hps
      have hil : (i : Int) ≤ r.size := by omega
      have hil1 : (i : Int) + 1 ≤ r.size := by omega
      gi_wp2
      refine ⟨trivial, (callsIn_wide.2 CI.out).mono ?_⟩
      rintro e w1 ⟨rfl, rfl⟩
      obtain ⟨fn, tmps, assign, body, hy, hR⟩ := HYY.out k (.string (r.extract 0 i)) wr HD2.out.1 HY.out ⟨_, rfl, by rw [HD2.out.2.1]⟩
      gi_wp2
      refine hR.mono ?_
      rintro e W3 (⟨rfl, hY3, hk3⟩ | ⟨rfl, hx3⟩)
      · have HY3 := Lib.hid hY3
        have HBX3 : Hid (Blk W3 bs 9 #[.string r]) := Lib.hid (hk3.2 bs _ rfl HBX.out rfl)
        have hbx3 : W3.cell? ⟨bs, 0, none⟩ = some (.string r) := HBX3.out.cell 0
        have fz3 := HBX3.out.frozen 0
        obtain ⟨b03, b13, _⟩ := HYR.out _ _ hY3
        clear hY3 hk3 b0 b1 hbx
        gi_wp2
        go_roundw
        case rel =>
          have hsz : (r.extract (i + 1) r.size).size ≤ r.size := by simp
          exact ⟨k + 1, r.extract (i + 1) r.size, by omega, Lib.hid (HBX3.out.set 0 _), Lib.hid (HYK.out _ _ _ HY3.out (SpareB.set W3 _ ⟨_, HBX3.out, rfl⟩)), Lib.hid HD2.out.2.2⟩
        case measure =>
          rw [boxSize_of (r := r) HBC.out, boxSize_of (r := r.extract (i + 1) r.size) ((HBX3.out.set 0 _).cell 0)]
          have hsz : (r.extract (i + 1) r.size).size < r.size := by simp; omega
          exact hsz
      · have HX3 := Lib.hid hx3
        clear hx3
        gi_wp2
        first | go_end0 | refine bodyPost_ret (results_none rfl _ _ _) rfl ?_ | refine bodyPost_end (results_none rfl _ _ _) rfl ?_
        exact ⟨⟨_, rfl⟩, .inr HX3.out⟩
end Go.Proofs.YtlniogfinofakaaGreatDoor
/-
  The contract of numbersOf of the program: the numbers of a text, or an error. Condition: texts shorter than 2^32 bytes, less a little.
-/
namespace Go.Proofs.YtlniogfinofakaaGreatDoor
set_option maxRecDepth 100000
set_option linter.unusedVariables false
set_option linter.unusedSimpArgs false
open Go.RowKit Go.Lib
attribute [local go_sem] Oper.semAt_some

theorem wpIn_app_int {F : Fence} {N : Nat} {ops : Array Oper} {rest : List Oper} {o : Oper} {a : Act} {Q : Exit → Act → World → Prop}
    (hgd : o.guard = none) (s y : Operand) (ho : o.op = .call { callee := .builtin .append, args := #[s, y], argTypes := #[45, 45] })
    (lo : Nat) (A : Option Addr) (n c : Nat) (l : List Int) (w : World) (hs : a.eval s = .slice A n c) (hown : OwnInts w lo A n c l)
    (x : Int) (hx : a.eval y = .slice (some ⟨w.heap.size, 0, none⟩) 1 1) (hn : n + 1 ≤ 1099511627776) (hbase : lo ≤ w.heap.size)
    (h : ∀ (g c' : Nat) (w' : World), OwnInts w' lo (some ⟨g, 0, none⟩) (n + 1) c' (l ++ [x]) → w.grownBy w' (A.map (·.block)) → (A.map (·.block) = some g ∨ g = w.heap.size + 1) → wpListIn F N Tryz.prog ops Q rest (a.put o.dst (.slice (some ⟨g, 0, none⟩) (n + 1) c')) w') :
    wpListIn F N Tryz.prog ops Q (o :: rest) a (w.alloc (.cells #[.int .i64 x] 3)) := by
  obtain ⟨i0, hi, hz0, hz1, hz2⟩ := info_parts info_int
  obtain ⟨g, c', w', hrun, r1, r2, r3, _⟩ := run_append_lies (P := Tryz.prog) (w := w.alloc (.cells #[.int .i64 x] 3)) 45 o.type lo 3 i0 (.int .i64 0) 1 8 Tryz.underlying45 hi hz0 hz1 hz2 rfl (by decide) (.slice A n c) n _ (World.ownsRow.alloc hown _) ⟨w.heap.size, 0, none⟩ 1 1 [.int .i64 x] rfl (cell_one_new _ _ _) (fun u hu => by simp at hu; subst hu; rfl)
    (by omega) (by unfold maxLen; omega) (by omega) (by simp; omega) _ rfl
  have hob : (Value.slice A n c).ownBlock = A.map (·.block) := by cases A <;> rfl
  rw [hob] at r2 r3
  refine wpListIn_plain hgd fun K hK' => ?_
  unfold Oper.wpIn
  refine ⟨?_, ?_⟩
  · simp [Oper.about, ho, resolve, Target.leads, Sem.run_pure]
  · rw [Oper.semAt_plain F _ _ (by rw [ho]; intro c hc'; cases hc')]
    simp [execOp, ho, resolve, invoke, builtin, hs, hx, hrun, Result.andThen]
    exact hK' _ _ (h g c' w' (by unfold OwnInts; rw [List.map_append]; exact r1) ⟨r2.os, r2.tape, r2.output, Nat.le_trans (by simp) r2.size, fun k hk hne => (r2.block k (by simp; omega) hne).trans (Below.heap_alloc w _ _ hk)⟩ (by simpa using r3))
theorem wp_overBS (bs : Nat) (o0 : Obj) (j : Tmp) {g : Operand} {p : Tmp} {assign body : Code} {Q : Exit → Act → World → Prop} {a : Act} {w : World} {gf : Nat} {lb : Array Value} (hg : a.eval g = .func (.func gf) #[] lb) (eg : ∀ args w, (callFunc gf args).run Tryz.prog w = .ok (.enter gf args) w)
    {N : Nat} {Rdb : World → Prop} {Pr : Nat → Value → World → Prop} {St : World → World → Prop} (hit : IterB bs o0 St gf lb N w.heap.size Rdb Pr) (hS1 : ∀ W W', St W W' → ∀ (i : Nat) (o : Obj), W.heap[i]? = some o → o.isCells = false → W'.heap[i]? = some o)
    (J : Nat → World → Prop) (Jx : World → Prop) (hJ : ∀ i W W', J i W → Moves w.heap.size W W' → J i W') (hJx : ∀ W W', Jx W → Moves w.heap.size W W' → Jx W') (hS2 : ∀ i W W', J i W → St W W' → J i W') (hJR : ∀ i W, J i W → Rdb W)
    (hPr : ∀ i v W W', Pr i v W → Moves w.heap.size W W' → Pr i v W') (h0 : J 0 w) (hbx : w.heap[bs]? = some o0)
    (hassign : ∀ (l : Nat) (i : Nat) (v : Value) (W : World) (K : Act → World → Prop), Pr i v W → K { tmps := (a.tmps.setIfInBounds p v).setIfInBounds j v, defers := [] } W → assign.wpIn (Fence.wide.inRound l) 1 Tryz.prog (Exit.then K (fun _ _ _ => False)) { tmps := ((#[p] : Array Tmp).zip #[v]).foldl (fun t (p, v) => t.setIfInBounds p v) a.tmps, defers := [] } W)
    (hbody : ∀ (l i : Nat) (v : Value) (W : World), i < N → w.heap.size ≤ W.heap.size → J i W → Pr i v W → body.wpIn (Fence.wide.inRound l) 1 Tryz.prog (roundEndB w.heap.size bs (J (i + 1)) Jx W) { tmps := (a.tmps.setIfInBounds p v).setIfInBounds j v, defers := [] } W)
    (hdone : ∀ (W : World), J N W → W.heap[w.heap.size]? = some (.deferred (some [])) → Q .normal { a with defers := { target := .collected w.heap.size, args := #[] } :: a.defers } W)
    (hstop : ∀ (W : World), Jx W → W.heap[w.heap.size]? = some (.deferred (some [])) → Code.ret.wpIn Fence.wide 3 Tryz.prog Q { a with defers := { target := .collected w.heap.size, args := #[] } :: a.defers } W) :
    (Code.rangeFunc g #[p] assign body).wp Tryz.prog Q a w :=
  wp_overB bs o0 hg eg hit hS1 J Jx hJ hJx hS2 hJR hPr h0 hbx (fun v => { tmps := (a.tmps.setIfInBounds p v).setIfInBounds j v, defers := [] }) hassign hbody hdone hstop
theorem canons_take : ∀ (l : List (List UInt8)) (p : List UInt8), canons (l ++ [p]) = (canons l).bind fun L => (canon p).map fun v => L ++ [v]
  | [], p => by
    simp only [List.nil_append, canons, Option.bind_some]
    cases canon p <;> rfl
  | a :: l, p => by
    rw [List.cons_append, canons, canons, canons_take l p]
    cases canon a with
    | none => rfl
    | some v => cases canons l <;> cases canon p <;> rfl
theorem canons_none : ∀ (l : List (List UInt8)) (i : Nat), i < l.length → canon (l.getD i []) = none → canons l = none
  | [], i, h, _ => absurd h (Nat.not_lt_zero _)
  | a :: l, 0, _, h => by
    rw [canons]
    simp only [List.getD_cons_zero] at h
    rw [h]
  | a :: l, i + 1, hi, h => by
    rw [canons, canons_none l i (by simpa using hi) (by simpa using h)]
    cases canon a <;> rfl
theorem take_next {l : List (List UInt8)} {i : Nat} (h : i < l.length) : l.take (i + 1) = l.take i ++ [l.getD i []] := by
  rw [List.take_add_one, List.getElem?_eq_getElem h, List.getD_eq_getElem?_getD, List.getElem?_eq_getElem h]
  rfl
theorem splitSeq_any (s : ByteArray) (w : World) :
    Calls Tryz.prog 72 #[.string s, .string ⟨#[44]⟩] w fun e w' => e = .returned (.func (.func 142) #[] #[.pointer (some ⟨w.heap.size + 1, 0, none⟩), .pointer (some ⟨w.heap.size, 0, none⟩), .pointer (some ⟨w.heap.size + 1 + 1, 0, none⟩)]) ∧ w' = ((w.alloc (.cells #[.string s] 9)).alloc (.cells #[.string ⟨#[44]⟩] 9)).alloc (.cells #[.int .i64 0] 3) := by
  go_enter Tryz.func72, Tryz.ntmps72
  go_wp2
  go_ret
  exact ⟨rfl, rfl⟩
theorem Moves.blk {n₀ : Nat} {W W' : World} (h : Moves n₀ W W') {b : Nat} {T : TypeId} {cs : Array Value} (hb : Blk W b T cs) : Blk W' b T cs := h.same _ _ hb (.inr rfl)
theorem Moves.keeps {n₀ : Nat} {w W W' : World} (h : Moves n₀ W W') (k : Keeps w W) (hn : w.heap.size ≤ n₀) : Keeps w W' :=
  ⟨h.os.trans k.os, h.tape.trans k.tape, h.output.trans k.output, Nat.le_trans k.size h.size, fun i hi => by
    have h1 := k.block i hi
    cases hx : W.heap[i]? with
    | none => exact absurd (Array.getElem?_eq_none_iff.1 hx) (by have := k.size; omega)
    | some o => rw [h.same i o hx (.inl (by omega)), ← h1, hx]⟩
theorem Moves.own {n₀ : Nat} {W W' : World} (h : Moves n₀ W W') {lo g n c : Nat} {l : List Int} (o : OwnInts W lo (some ⟨g, 0, none⟩) n c l) : OwnInts W' lo (some ⟨g, 0, none⟩) n c l := by
  obtain ⟨h1, h2 | ⟨g', cap, cur, hv, hb, hg, rest⟩⟩ := o
  · exact ⟨h1, .inl h2⟩
  · cases hv
    exact ⟨h1, .inr ⟨g, _, cur, rfl, hb, h.same _ _ hg (.inr rfl), rest⟩⟩
theorem SpareB.blk {n₀ bs : Nat} {W W' : World} (h : SpareB n₀ bs W W') {b : Nat} {T : TypeId} {cs : Array Value} (hb : Blk W b T cs) (hn : b ≠ bs) : Blk W' b T cs := h.same _ _ hb (.inl hn)
theorem SpareB.keeps {n₀ bs : Nat} {w W W' : World} (h : SpareB n₀ bs W W') (k : Keeps w W) (hn : w.heap.size ≤ bs) : Keeps w W' :=
  ⟨h.os.trans k.os, h.tape.trans k.tape, h.output.trans k.output, Nat.le_trans k.size h.size, fun i hi => by
    have h1 := k.block i hi
    cases hx : W.heap[i]? with
    | none => exact absurd (Array.getElem?_eq_none_iff.1 hx) (by have := k.size; omega)
    | some o => rw [h.same i o hx (.inl (by omega)), ← h1, hx]⟩
theorem SpareB.own {n₀ bs : Nat} {W W' : World} (h : SpareB n₀ bs W W') {lo g n c : Nat} {l : List Int} (o : OwnInts W lo (some ⟨g, 0, none⟩) n c l) (hn : g ≠ bs) : OwnInts W' lo (some ⟨g, 0, none⟩) n c l := by
  obtain ⟨h1, h2 | ⟨g', cap, cur, hv, hb, hg, rest⟩⟩ := o
  · exact ⟨h1, .inl h2⟩
  · cases hv
    exact ⟨h1, .inr ⟨g, _, cur, rfl, hb, h.same _ _ hg (.inl hn), rest⟩⟩
theorem own_cells {W : World} {lo g n c : Nat} {l : List Int} (o : OwnInts W lo (some ⟨g, 0, none⟩) n c l) : ∃ cs, W.heap[g]? = some (.cells cs 3 (0, 0)) := by
  obtain ⟨h1, h2 | ⟨g', cap, cur, hv, hb, hg, rest⟩⟩ := o
  · cases h2.1
  · cases hv
    exact ⟨cur, hg⟩
theorem own_ne {W : World} {lo g n c b : Nat} {l : List Int} {T : TypeId} {cs : Array Value} (o : OwnInts W lo (some ⟨g, 0, none⟩) n c l) (hb : Blk W b T cs) (hT : T ≠ 3) : g ≠ b := fun e => by
  obtain ⟨cur, h1⟩ := own_cells o
  have h2 : W.heap[b]? = some (.cells cs T (0, 0)) := hb
  rw [e, h2] at h1
  cases h1
  exact hT rfl
theorem blk_put {W : World} {l b : Nat} {T : TypeId} {cs : Array Value} {d : Option (List Deferred)} (hl : W.heap[l]? = some (.deferred d)) (hb : Blk W b T cs) {o' : Obj} : Blk (W.putObj l o') b T cs := by
  refine (World.putObj_heap_other (fun e => ?_)).trans hb
  have h2 : W.heap[b]? = some (.cells cs T (0, 0)) := hb
  rw [e, hl] at h2
  cases h2
theorem keeps_put {w W : World} {l : Nat} {o o' : Obj} (hl : W.heap[l]? = some o) (k : Keeps w W) (h : w.heap.size ≤ l) : Keeps w (W.putObj l o') :=
  ⟨k.os, k.tape, k.output, by simpa using k.size, fun i hi => (World.putObj_heap_other (by omega)).trans (k.block i hi)⟩
/-- What numbersOf has between two rounds. -/
structure NJ (ps : List (List UInt8)) (B : Nat) (text : ByteArray) (w : World) (i : Nat) (W : World) : Prop where
  tx : Blk W B 9 #[.string text]
  r2 : Blk W (B + 1) 45 #[.slice none 0 0]
  r3 : Blk W (B + 1 + 1) 37 #[.nilIface]
  bx : ∃ cs, Blk W (B + 1 + 1 + 1 + 1 + 1) 9 cs
  pb : Blk W (B + 1 + 1 + 1 + 1 + 1 + 1) 9 #[.string ⟨#[44]⟩]
  vb : Blk W (B + 1 + 1 + 1 + 1 + 1 + 1 + 1) 3 #[.int .i64 0]
  out : ∃ (g c : Nat) (L : List Int), canons (ps.take i) = some L ∧ Blk W (B + 1 + 1 + 1 + 1) 45 #[.slice (some ⟨g, 0, none⟩) i c] ∧ OwnInts W w.heap.size (some ⟨g, 0, none⟩) i c L ∧ g ≠ B + 1 + 1 + 1 + 1 + 1 + 1 + 1
  kp : Keeps w W
/-- .. and behind a number that is none. -/
structure NX (ps : List (List UInt8)) (B : Nat) (w : World) (W : World) : Prop where
  r2 : Blk W (B + 1) 45 #[.slice none 0 0]
  r3 : ∃ N, Blk W (B + 1 + 1) 37 #[.iface 80 (.pointer (some ⟨N, 0, none⟩))]
  no : canons ps = none
  kp : Keeps w W
def NumsAns (A : Option (List Int)) (w : World) (e : Ending) (w' : World) : Prop :=
  Keeps w w' ∧ match A with
    | some L => ∃ g c, e = .returned (.tuple #[.slice (some ⟨g, 0, none⟩) L.length c, .nilIface]) ∧ OwnInts w' w.heap.size (some ⟨g, 0, none⟩) L.length c L
    | none => ∃ N, e = .returned (.tuple #[.slice none 0 0, .iface 80 (.pointer (some ⟨N, 0, none⟩))])
theorem results_cells {fn : Func} {r s : Nat} {T1 T2 : TypeId} (h : fn.results = #[.cell r T1, .cell s T2]) (hn1 : ∀ w, (isAgg T1).run Tryz.prog w = .ok false w) (hn2 : ∀ w, (isAgg T2).run Tryz.prog w = .ok false w) (tmps : Array Value) (w : World) {b4 b5 : Nat} {x y : Value} (h4 : tmps.getD r undef = .pointer (some ⟨b4, 0, none⟩)) (h5 : tmps.getD s undef = .pointer (some ⟨b5, 0, none⟩))
    (c4 : w.cell? ⟨b4, 0, none⟩ = some x) (c5 : w.cell? ⟨b5, 0, none⟩ = some y) : (results fn tmps).run Tryz.prog w = .ok (.tuple #[x, y]) w := by
  rw [Array.getD_eq_getD_getElem?] at h4 h5
  simp [results, h, h4, h5, go_sem, c4, c5, hn1, hn2]
theorem nums_stop {P : List (List UInt8)} {B : Nat} {text : ByteArray} {w : World} {i n₀ : Nat} {W W3 : World} (hB : w.heap.size ≤ B) (HJ : NJ P B text w i W) (k : Keeps W W3) (hn : canons P = none) :
    AboveB n₀ (B + 1 + 1 + 1 + 1 + 1) W ((((W3.setCell ⟨B + 1, 0, none⟩ (.slice none 0 0)).setCell ⟨B + 1 + 1, 0, none⟩ (.iface 80 (.pointer (some ⟨W3.heap.size, 0, none⟩)))).alloc (.cells #[.string text] 107)).drew) ∧
    NX P B w ((((W3.setCell ⟨B + 1, 0, none⟩ (.slice none 0 0)).setCell ⟨B + 1 + 1, 0, none⟩ (.iface 80 (.pointer (some ⟨W3.heap.size, 0, none⟩)))).alloc (.cells #[.string text] 107)).drew) := by
  have b2 := HJ.r2.keeps k
  have b3 := (HJ.r3.keeps k).set_other ⟨B + 1, 0, none⟩ (.slice none 0 0) (by simp)
  have kz := (Keeps.alloc ((W3.setCell ⟨B + 1, 0, none⟩ (.slice none 0 0)).setCell ⟨B + 1 + 1, 0, none⟩ (.iface 80 (.pointer (some ⟨W3.heap.size, 0, none⟩)))) (.cells #[.string text] 107)).step (Keeps.drew1 _)
  refine ⟨(AboveB.ofKeeps k).trans ((AboveB.set b2 (by omega) _).trans ((AboveB.set b3 (by omega) _).trans (AboveB.ofKeeps kz))), ⟨((b2.set 0 _).set_other _ _ (by simp)).keeps kz, ⟨_, (b3.set 0 _).keeps kz⟩, hn, ?_⟩⟩
  exact Keeps.step (((HJ.kp.step k).setCell (p := ⟨B + 1, 0, none⟩) (by simp only; omega) _).setCell (p := ⟨B + 1 + 1, 0, none⟩) (by simp only; omega) _) kz
set_option maxRecDepth 100000 in
set_option maxHeartbeats 4000000 in
theorem numbersOf_any (text : ByteArray) (w : World) (hs : text.size < 4294967281) (hv : Vars w) : Calls Tryz.prog 47 #[.string text] w (NumsAns (canons (splitA 44 [] text.data.toList)) w) := by
  have HV := Lib.hid hv
  clear hv
  obtain ⟨B, hB⟩ : ∃ B, B = w.heap.size := ⟨_, rfl⟩
  obtain ⟨w0, hw0⟩ : ∃ w0, w0 = ((((w.alloc (.cells #[.string text] 9)).alloc (.cells #[.slice none 0 0] 45)).alloc (.cells #[.nilIface] 37)).alloc (.cells #[] 3)).alloc (.cells #[.slice (some ⟨B + 1 + 1 + 1, 0, none⟩) 0 0] 45) := ⟨_, rfl⟩
  obtain ⟨P, hP⟩ : ∃ P, P = splitA 44 [] text.data.toList := ⟨_, rfl⟩
  have HSEQ := Lib.hid (fun w => splitSeq_any text w)
  have HIT := Lib.hid (fun n₀ => split_iter text (B + 1 + 1 + 1 + 1 + 1) (B + 1 + 1 + 1 + 1 + 1 + 1) (B + 1 + 1 + 1 + 1 + 1 + 1 + 1) n₀ hs (by omega))
  have HPL : Hid (∀ i, i < P.length → (P.getD i []).length ≤ text.size) := Lib.hid (fun i hi => by
    have hm : P.getD i [] ∈ splitA 44 [] text.data.toList := by
      rw [← hP, List.getD_eq_getElem?_getD, List.getElem?_eq_getElem hi]
      exact List.getElem_mem hi
    have h1 := splitA_sz 44 _ _ _ hm
    have e : text.data.toList.length = text.size := by simp
    simp only [List.length_nil] at h1
    omega)
  have HPLEN : Hid (P.length ≤ text.size + 1) := Lib.hid (by
    have h := splitA_len 44 text.data.toList []
    have e : text.data.toList.length = text.size := by simp
    rw [hP]
    omega)
  rw [← hP] at HIT ⊢
  clear hP
  refine callsIn_wide.1 (callsIn_of_wp_marks (n := 3) Tryz.func47 rfl trivial (wpIn_mono (wpIn_wide.2 ?_) leaveM_post) rfl)
  simp only [Tryz.ntmps47, List.size_toArray, List.length_cons, List.length_nil, Nat.reduceAdd, Nat.reduceSub, Array.replicate_succ, Array.replicate_zero, List.push_toArray, List.append_toArray, List.nil_append, List.cons_append]
  go_wp2_with fail
  have hz0 : w0.heap.size = B + 1 + 1 + 1 + 1 + 1 := by rw [hw0, hB]; simp
  have HK0 : Hid (Keeps w w0) := Lib.hid (by rw [hw0]; exact ((((Keeps.alloc w _).step (Keeps.alloc _ _)).step (Keeps.alloc _ _)).step (Keeps.alloc _ _)).step (Keeps.alloc _ _))
  have HT0 : Hid (Blk w0 B 9 #[.string text]) := Lib.hid (by rw [hw0, hB]; exact ((((Blk.new w _ _).keeps (Keeps.alloc _ _)).keeps (Keeps.alloc _ _)).keeps (Keeps.alloc _ _)).keeps (Keeps.alloc _ _))
  have HR2 : Hid (Blk w0 (B + 1) 45 #[.slice none 0 0]) := Lib.hid (by rw [hw0, hB]; exact (((blk_at (by simp) (Blk.new (w.alloc (.cells #[.string text] 9)) _ _)).keeps (Keeps.alloc _ _)).keeps (Keeps.alloc _ _)).keeps (Keeps.alloc _ _))
  have HR3 : Hid (Blk w0 (B + 1 + 1) 37 #[.nilIface]) := Lib.hid (by rw [hw0, hB]; exact ((blk_at (by simp) (Blk.new ((w.alloc (.cells #[.string text] 9)).alloc (.cells #[.slice none 0 0] 45)) _ _)).keeps (Keeps.alloc _ _)).keeps (Keeps.alloc _ _))
  have HOB : Hid (Blk w0 (B + 1 + 1 + 1 + 1) 45 #[.slice (some ⟨B + 1 + 1 + 1, 0, none⟩) 0 0]) := Lib.hid (by rw [hw0, hB]; exact blk_at (by simp) (Blk.new _ _ _))
  have HOI : Hid (OwnInts w0 w.heap.size (some ⟨B + 1 + 1 + 1, 0, none⟩) 0 0 []) := Lib.hid (by
    rw [hw0]
    refine OwnInts.keeps ?_ (Keeps.alloc _ _)
    have h := OwnInts.made (((w.alloc (.cells #[.string text] 9)).alloc (.cells #[.slice none 0 0] 45)).alloc (.cells #[.nilIface] 37)) w.heap.size (by simp; omega)
    rw [show (((w.alloc (.cells #[.string text] 9)).alloc (.cells #[.slice none 0 0] 45)).alloc (.cells #[.nilIface] 37)).heap.size = B + 1 + 1 + 1 by rw [hB]; simp] at h
    exact h)
  rw [← hB]
  rw [← hw0]
  have HBE := Lib.hid hB
  clear hw0 hB
  refine (HSEQ.out w0).mono ?_
  rintro e w1 ⟨rfl, hw1⟩
  rw [hz0]
  have HK1 : Hid (Keeps w0 w1) := Lib.hid (by rw [hw1]; exact ((Keeps.alloc w0 _).step (Keeps.alloc _ _)).step (Keeps.alloc _ _))
  have HBX : Hid (Blk w1 (B + 1 + 1 + 1 + 1 + 1) 9 #[.string text]) := Lib.hid (by rw [hw1, ← hz0]; exact ((Blk.new w0 _ _).keeps (Keeps.alloc _ _)).keeps (Keeps.alloc _ _))
  have HPB : Hid (Blk w1 (B + 1 + 1 + 1 + 1 + 1 + 1) 9 #[.string ⟨#[44]⟩]) := Lib.hid (by rw [hw1, ← hz0]; exact (blk_at (by simp) (Blk.new (w0.alloc (.cells #[.string text] 9)) _ _)).keeps (Keeps.alloc _ _))
  have HVB : Hid (Blk w1 (B + 1 + 1 + 1 + 1 + 1 + 1 + 1) 3 #[.int .i64 0]) := Lib.hid (by rw [hw1, ← hz0]; exact blk_at (by simp) (Blk.new _ _ _))
  have HZ1 : Hid (w1.heap.size = B + 1 + 1 + 1 + 1 + 1 + 1 + 1 + 1) := Lib.hid (by rw [hw1, ← hz0]; simp)
  have HJ0 : Hid (NJ P B text w 0 w1) := Lib.hid ⟨HT0.out.keeps HK1.out, HR2.out.keeps HK1.out, HR3.out.keeps HK1.out, ⟨_, HBX.out⟩, HPB.out, HVB.out, ⟨_, _, [], rfl, HOB.out.keeps HK1.out, HOI.out.keeps HK1.out, by omega⟩, HK0.out.step HK1.out⟩
  clear hw1 HT0 HR2 HR3 HOB HOI HPB HVB HK0 HK1 hz0
  have hwB : w.heap.size ≤ B := by rw [HBE.out]; exact Nat.le_refl _
  have hw1s : w.heap.size ≤ w1.heap.size := HJ0.out.kp.size
  go_wp2_with fail
  refine wp_overBS (B + 1 + 1 + 1 + 1 + 1) (.cells #[.string text] 9 (0, 0)) 5 rfl (fun _ _ => rfl) (HIT.out w1.heap.size) (fun W W' h => SpareB.rest W W' h) (NJ P B text w) (NX P B w)
    (fun i W W' h m => ⟨m.blk h.tx, m.blk h.r2, m.blk h.r3, let ⟨cs, hc⟩ := h.bx; ⟨cs, m.blk hc⟩, m.blk h.pb, m.blk h.vb, let ⟨g, c, L, h1, h2, h3, h4⟩ := h.out; ⟨g, c, L, h1, m.blk h2, m.own h3, h4⟩, m.keeps h.kp hw1s⟩)
    (fun W W' h m => ⟨m.blk h.r2, let ⟨N, hn⟩ := h.r3; ⟨N, m.blk hn⟩, h.no, m.keeps h.kp hw1s⟩)
    (fun i W W' h k => ⟨k.blk h.tx (by omega), k.blk h.r2 (by omega), k.blk h.r3 (by omega), let ⟨cs, hc⟩ := h.bx; k.box cs _ hc, k.blk h.pb (by omega), k.blk h.vb (by omega), let ⟨g, c, L, h1, h2, h3, h4⟩ := h.out; ⟨g, c, L, h1, k.blk h2 (by omega), k.own h3 (let ⟨cs, hc⟩ := h.bx; own_ne h3 hc (by decide)), h4⟩, k.keeps h.kp (by omega)⟩)
    (fun i W h => ⟨h.pb.cell 0, h.vb.cell 0, HV.out.keeps h.kp⟩) (fun i v W W' h _ => h) HJ0.out HBX.out ?assign ?body ?done ?stop
  case assign =>
    intro l i v W K _ hK
    gi_wp2
    exact hK
  case stop =>
    rintro W hx hD
    have HX := Lib.hid hx
    have HD := Lib.hid hD
    clear hx hD
    gi_wp2
    obtain ⟨N, hN⟩ := HX.out.r3
    refine postM_ret rfl HD.out (results_cells rfl Tryz.isAgg45 Tryz.isAgg37 _ _ rfl rfl ((blk_put HD.out HX.out.r2).cell 0) ((blk_put HD.out hN).cell 0)) ⟨keeps_put HD.out HX.out.kp hw1s, ?_⟩
    rw [HX.out.no]
    exact ⟨N, rfl⟩
  case done =>
    rintro W hj hD
    have HJ := Lib.hid hj
    have HD := Lib.hid hD
    obtain ⟨g, c, L, hL, hob, hoi, hg⟩ := hj.out
    have HL := Lib.hid hL
    have HOB := Lib.hid hob
    have HOI := Lib.hid hoi
    have d4 : W.cell? ⟨B + 1 + 1 + 1 + 1, 0, none⟩ = some (.slice (some ⟨g, 0, none⟩) P.length c) := hob.cell 0
    have d2 : W.cell? ⟨B + 1, 0, none⟩ = some (.slice none 0 0) := hj.r2.cell 0
    have d3 : W.cell? ⟨B + 1 + 1, 0, none⟩ = some .nilIface := hj.r3.cell 0
    have f2 := hj.r2.frozen 0
    have f3 := hj.r3.frozen 0
    clear hj hD hL hob hoi
    simp only [Exit.inBlock, Exit.then]
    go_at_K
    go_wp2_with fail
    have b2 := (HJ.out.r2.set 0 (.slice (some ⟨g, 0, none⟩) P.length c)).set_other ⟨B + 1 + 1, 0, none⟩ .nilIface (by simp)
    have b3 := (HJ.out.r3.set_other ⟨B + 1, 0, none⟩ (.slice (some ⟨g, 0, none⟩) P.length c) (by simp)).set 0 .nilIface
    have hDl : w.heap.size ≤ w1.heap.size := hw1s
    have hZ := HZ1.out
    have hD2 : ((W.setCell ⟨B + 1, 0, none⟩ (.slice (some ⟨g, 0, none⟩) P.length c)).setCell ⟨B + 1 + 1, 0, none⟩ .nilIface).heap[w1.heap.size]? = some (.deferred (some [])) :=
      (Below.heap_setCell _ _ _ _ (by simp only; omega)).trans ((Below.heap_setCell _ _ _ _ (by simp only; omega)).trans HD.out)
    refine postM_ret rfl hD2 (results_cells rfl Tryz.isAgg45 Tryz.isAgg37 _ _ rfl rfl ((blk_put hD2 b2).cell 0) ((blk_put hD2 b3).cell 0)) ⟨keeps_put hD2 ((HJ.out.kp.setCell (p := ⟨B + 1, 0, none⟩) (by simp only; omega) _).setCell (p := ⟨B + 1 + 1, 0, none⟩) (by simp only; omega) _) hw1s, ?_⟩
    have hl : canons P = some L := by have h := HL.out; rw [List.take_length] at h; exact h
    rw [hl]
    have hlen := HOI.out.len
    refine ⟨g, c, by rw [hlen]; rfl, ?_⟩
    rw [hlen]
    exact (Moves.put (n₀ := 0) (Nat.zero_le _) hD2 rfl _).own ((HOI.out.grown (grown_set _ _ _ _) HJ.out.r2 (by decide)).grown (grown_set _ _ _ _) (HJ.out.r3.set_other _ _ (by simp)) (by decide))
  case body =>
    rintro l i v W hi hsW hj ⟨s, rfl, hsp⟩
    have HJ := Lib.hid hj
    have HI := Lib.hid hi
    have hss : s.size ≤ text.size := by
      have h := HPL.out i hi
      rw [← hsp] at h
      simpa using h
    have HSP := Lib.hid hsp
    obtain ⟨g, c, L, hL, hob, hoi, hg⟩ := hj.out
    have HL := Lib.hid hL
    have HOB := Lib.hid hob
    have HOI := Lib.hid hoi
    have HVW := Lib.hid (HV.out.keeps hj.kp)
    have CB := Lib.hid (fun h => atoi_bad s W (by omega) HVW.out h)
    have CO := Lib.hid (fun v h => atoi_ok s v W (by omega) h)
    clear hj hi hsp hL hob hoi
    by_cases hok : ∃ v, atoiAll s.data.toList = .ok v
    · obtain ⟨v, hat⟩ := hok
      have CA := Lib.hid (CO.out v hat)
      have hvb := atoiAll_bounds hat
      have CI := Lib.hid (fun W2 (k : Keeps W W2) => itoa_any v W2 hvb.1 hvb.2 (HVW.out.keeps k))
      have HCN : Hid (canon (P.getD i []) = if itoa v = s.data.toList then some v else none) := Lib.hid (by
        rw [← HSP.out]
        unfold canon
        rw [hat])
      obtain ⟨Y, hY⟩ : ∃ Y : ByteArray, Y = ⟨(itoa v).toArray⟩ := ⟨_, rfl⟩
      rw [← hY] at CI
      clear CB CO hat hvb
      by_cases hyp : itoa v = s.data.toList
      · have hyb : (Y.toList == s.toList) = true := by rw [toList_data, toList_data, hY, beq_iff_eq]; simpa using hyp
        have HC2 : Hid (canons (P.take (i + 1)) = some (L ++ [v])) := Lib.hid (by
          rw [take_next HI.out, canons_take, HL.out, HCN.out, if_pos hyp]
          rfl)
        clear hyp hY HCN
        gi_wp2
        refine ⟨trivial, (CallsIn.inRound l (callsIn_wide.2 CA.out)).mono ?_⟩
        rintro e W2 ⟨rfl, hk2⟩
        have CI2 := Lib.hid (CI.out W2 hk2)
        have HK2 := Lib.hid hk2
        clear hk2 CI
        gi_wp2
        refine ⟨trivial, (CallsIn.inRound l (callsIn_wide.2 CI2.out)).mono ?_⟩
        rintro e W3 ⟨rfl, hk3⟩
        have HK3 := Lib.hid (HK2.out.step hk3)
        have HOB3 := Lib.hid (HOB.out.keeps HK3.out)
        have HOI3 := Lib.hid (HOI.out.keeps HK3.out)
        have e4 : W3.cell? ⟨B + 1 + 1 + 1 + 1, 0, none⟩ = some (.slice (some ⟨g, 0, none⟩) i c) := HOB3.out.cell 0
        have hwsz : w.heap.size ≤ W3.heap.size := Nat.le_trans HJ.out.kp.size HK3.out.size
        have hiN : i + 1 ≤ 1099511627776 := by have := HI.out; have := HPLEN.out; omega
        clear hk3 HK2
        gi_wp2_with (first | (gi_at_builtin; refine wpIn_app_int rfl _ _ rfl w.heap.size (some ⟨g, 0, none⟩) i c L _ rfl HOI3.out _ rfl hiN hwsz ?_; intro g6 c6 w6 hO6 hg6 hat6; have hOB6 := HOB3.out.grown hg6 (own_other' HOI3.out HOB3.out (by decide)); have e46 : w6.cell? ⟨B + 1 + 1 + 1 + 1, 0, none⟩ = some (.slice (some ⟨g, 0, none⟩) i c) := hOB6.cell 0; have f46 := hOB6.frozen 0))
        have hJ := HJ.out
        obtain ⟨cbx, hbx⟩ := hJ.bx
        have hgb : g ≠ B + 1 + 1 + 1 + 1 + 1 := own_ne HOI.out hbx (by decide)
        obtain ⟨gcs, hgc⟩ := own_cells HOI3.out
        have hvl := (hJ.vb.keeps HK3.out).lt
        refine ⟨(AboveB.ofKeeps HK3.out).trans ((AboveB.grown hg6 (fun d hd => ?_)).trans (AboveB.set hOB6 (by omega) _)), ⟨?_, ?_, ?_, ⟨cbx, ?_⟩, ?_, ?_, ⟨g6, c6, L ++ [v], HC2.out, hOB6.set 0 _, hO6.grown (grown_set _ _ _ _) hOB6 (by decide), ?_⟩, ?_⟩⟩
        · have e : g = d := by simpa using hd
          subst e
          exact ⟨hgb, gcs, _, _, hgc⟩
        · exact ((hJ.tx.keeps HK3.out).grown hg6 (own_other' HOI3.out (hJ.tx.keeps HK3.out) (by decide))).set_other _ _ (by simp only; omega)
        · exact ((hJ.r2.keeps HK3.out).grown hg6 (own_other' HOI3.out (hJ.r2.keeps HK3.out) (by decide))).set_other _ _ (by simp only; omega)
        · exact ((hJ.r3.keeps HK3.out).grown hg6 (own_other' HOI3.out (hJ.r3.keeps HK3.out) (by decide))).set_other _ _ (by simp only; omega)
        · exact ((hbx.keeps HK3.out).grown hg6 (own_other' HOI3.out (hbx.keeps HK3.out) (by decide))).set_other _ _ (by simp only; omega)
        · exact ((hJ.pb.keeps HK3.out).grown hg6 (own_other' HOI3.out (hJ.pb.keeps HK3.out) (by decide))).set_other _ _ (by simp only; omega)
        · exact ((hJ.vb.keeps HK3.out).grown hg6 (by simp; exact fun h => hg h.symm)).set_other _ _ (by simp only; omega)
        · rcases hat6 with h | h
          · have e : g = g6 := by simpa using h
            rw [← e]; exact hg
          · omega
        · exact ((hJ.kp.step HK3.out).grown HOI3.out (Nat.le_refl _) hg6).setCell (p := ⟨B + 1 + 1 + 1 + 1, 0, none⟩) (by simp only; omega) _
      · have hyb : (Y.toList == s.toList) = false := by rw [toList_data, toList_data, hY, beq_eq_false_iff_ne]; simpa using hyp
        have HC2 : Hid (canons P = none) := Lib.hid (canons_none P i HI.out (by rw [HCN.out, if_neg hyp]))
        clear hyp hY HCN
        gi_wp2
        refine ⟨trivial, (CallsIn.inRound l (callsIn_wide.2 CA.out)).mono ?_⟩
        rintro e W2 ⟨rfl, hk2⟩
        have CI2 := Lib.hid (CI.out W2 hk2)
        have HK2 := Lib.hid hk2
        clear hk2 CI
        gi_wp2
        refine ⟨trivial, (CallsIn.inRound l (callsIn_wide.2 CI2.out)).mono ?_⟩
        rintro e W3 ⟨rfl, hk3⟩
        have HK3 := Lib.hid (HK2.out.step hk3)
        clear hk3 HK2
        have e0 : W3.cell? ⟨B, 0, none⟩ = some (.string text) := (HJ.out.tx.keeps HK3.out).cell 0
        have e2 : W3.cell? ⟨B + 1, 0, none⟩ = some (.slice none 0 0) := (HJ.out.r2.keeps HK3.out).cell 0
        have e3 : W3.cell? ⟨B + 1 + 1, 0, none⟩ = some .nilIface := (HJ.out.r3.keeps HK3.out).cell 0
        have f2 := (HJ.out.r2.keeps HK3.out).frozen 0
        have f3 := (HJ.out.r3.keeps HK3.out).frozen 0
        have l0 := (HJ.out.tx.keeps HK3.out).lt
        have l2 := (HJ.out.r2.keeps HK3.out).lt
        have l3 := (HJ.out.r3.keeps HK3.out).lt
        gi_wp2
        gi_region
        all_goals gi_wp2
        all_goals exact nums_stop hwB HJ.out HK3.out HC2.out
    · have CA := Lib.hid (CB.out (fun v h => hok ⟨v, h⟩))
      have HC2 : Hid (canons P = none) := Lib.hid (canons_none P i HI.out (by
        rw [← HSP.out]
        unfold canon
        cases h : atoiAll s.data.toList with
        | ok v => exact absurd ⟨v, h⟩ hok
        | _ => rfl))
      clear CB CO hok
      gi_wp2
      refine ⟨trivial, (CallsIn.inRound l (callsIn_wide.2 CA.out)).mono ?_⟩
      rintro e W3 ⟨⟨x, N, rfl⟩, hk3⟩
      have HK3 := Lib.hid hk3
      clear hk3
      have e0 : W3.cell? ⟨B, 0, none⟩ = some (.string text) := (HJ.out.tx.keeps HK3.out).cell 0
      have e2 : W3.cell? ⟨B + 1, 0, none⟩ = some (.slice none 0 0) := (HJ.out.r2.keeps HK3.out).cell 0
      have e3 : W3.cell? ⟨B + 1 + 1, 0, none⟩ = some .nilIface := (HJ.out.r3.keeps HK3.out).cell 0
      have f2 := (HJ.out.r2.keeps HK3.out).frozen 0
      have f3 := (HJ.out.r3.keeps HK3.out).frozen 0
      have l0 := (HJ.out.tx.keeps HK3.out).lt
      have l2 := (HJ.out.r2.keeps HK3.out).lt
      have l3 := (HJ.out.r3.keeps HK3.out).lt
      gi_wp2
      refine ⟨trivial, ?_⟩
      gi_wp2
      gi_region
      all_goals gi_wp2
      all_goals exact nums_stop hwB HJ.out HK3.out HC2.out
end Go.Proofs.YtlniogfinofakaaGreatDoor
