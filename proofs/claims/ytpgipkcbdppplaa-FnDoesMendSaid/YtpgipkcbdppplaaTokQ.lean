/-
  impl.LegalStates: it returns some lists. Condition: the numbers of a ring.
-/
import Derived.Test.YtpgipkcbdppplaaTokO
import Derived.Test.YtpgipkcbdppplaaTokP
import Derived.Test.YtpgipkcbdppplaaTokN
import Derived.Stop.RegionWithIn
namespace Go.Proofs.Ytpgipkcbdppplaa
set_option linter.unusedVariables false
open Go.RowKit
attribute [local go_sem] Oper.semAt_some

/-- Own lists of whatever they are. -/
def OwnLs (W : World) (lo : Nat) (A : Option Addr) (m c : Nat) : Prop := ∃ xs : List Value, W.ownsRow lo 23 1 (.slice A m c) m xs
theorem OwnLs.keeps {W W' : World} {lo m c : Nat} {A : Option Addr} (h : OwnLs W lo A m c) (k : Keeps W W') : OwnLs W' lo A m c := by
  obtain ⟨xs, h⟩ := h
  exact ⟨xs, own_keeps h k⟩
theorem OwnLs.moves {W W' : World} {lo m c : Nat} {A : Option Addr} (h : OwnLs W lo A m c) (hk : ∀ (i : Nat) (o : Obj), W.heap[i]? = some o → isI o = false → o.isCells = true → W'.heap[i]? = some o) : OwnLs W' lo A m c := by
  obtain ⟨xs, h1, h2 | ⟨g', cap, cur, hv, hb, hg, rest⟩⟩ := h
  · exact ⟨xs, h1, .inl h2⟩
  · exact ⟨xs, h1, .inr ⟨g', cap, cur, hv, hb, hk _ _ hg rfl rfl, rest⟩⟩
theorem OwnLs.made (w : World) (lo : Nat) (h : lo ≤ w.heap.size) : OwnLs (w.alloc (.cells #[] 23)) lo (some ⟨w.heap.size, 0, none⟩) 0 0 := ⟨[], World.ownsRow_made w #[] 0 h (by unfold maxLen; omega) rfl⟩
theorem OwnLs.clip {w : World} {lo g m c : Nat} (h : OwnLs w lo (some ⟨g, 0, none⟩) m c) : m ≤ c ∧ c ≤ 9223372036854775807 := by
  obtain ⟨xs, h1, h2 | ⟨g', cap, cur, hv, hb, hg, rest⟩⟩ := h
  · cases h2.1
  · cases hv
    exact ⟨rest.1, by have := rest.2.1; unfold maxLen at this; omega⟩
theorem Keeps.putC {w W : World} (h : Keeps w W) {D : Nat} (hD : w.heap.size ≤ D) (o : Obj) : Keeps w (W.putObj D o) :=
  ⟨h.os, h.tape, h.output, Nat.le_trans h.size (by simp), fun i hi => (World.putObj_heap_other (by omega)).trans (h.block i hi)⟩
theorem info_intsL : (Try.prog.info? 23).map (fun i => (i.zero, i.size, i.bytes)) = some (some (.slice none 0 0), 1, 24) := by kernel_rfl
theorem stepIn_run {F : Fence} {nF : Nat} {ops : Array Oper} {o : Oper} {a : Act} {K : Act → World → Prop} {Q : Exit → Act → World → Prop} {D : Prop} (hgd : o.guard = none) (s x : Operand) (t : TypeId)
    (ho : o.op = .call { callee := .builtin .append, args := #[s, x], argTypes := #[t, t] }) {W W' : World} {v : Value} (hr : (Builtin.append_ #[t, t] o.type #[a.eval s, a.eval x]).run Try.prog W = .ok v W') (h : K (a.put o.dst v) W') :
    if Region.wanted o (yielded ops a.tmps) = true then Oper.wpIn F nF Try.prog o a W K Q else D := by
  have hw : Region.wanted o (yielded ops a.tmps) = true := by simp [Region.wanted, hgd]
  rw [if_pos hw]
  unfold Oper.wpIn
  refine ⟨by simp [Oper.about, ho, resolve, Target.leads, Sem.run_pure], ?_⟩
  rw [Oper.semAt_plain F _ _ (by rw [ho]; intro c hc'; cases hc')]
  simp [execOp, ho, resolve, invoke, builtin, hr, Result.andThen]
  exact h
theorem cell_set_far {w : World} {a b : Addr} {v u : Value} (h : w.cell? a = some v) (hne : b.block ≠ a.block) : (w.setCell b u).cell? a = some v :=
  (World.cell?_of_block (Below.heap_setCell _ _ _ _ (fun e => hne e.symm))).trans h
theorem OwnLs.block {w : World} {lo g m c : Nat} (h : OwnLs w lo (some ⟨g, 0, none⟩) m c) : lo ≤ g ∧ g < w.heap.size := by
  obtain ⟨xs, h⟩ := h
  exact own_block h g rfl
/-- The list's box and what it holds, between two rounds. -/
structure LJ (k n B nb kb : Nat) (w : World) (i : Nat) (W : World) : Prop where
  out : ∃ (g m c : Nat), Blk W B 38 #[.slice (some ⟨g, 0, none⟩) m c] ∧ (m ≤ i ∧ g ≠ nb ∧ g ≠ kb) ∧ OwnLs W w.heap.size (some ⟨g, 0, none⟩) m c
  rd : RdStates k n nb kb W
  keeps : Keeps w W
theorem LJ.low {k n B nb kb i : Nat} {w W W' : World} (h : LJ k n B nb kb w i W) (n₀ : Nat) (hos : W'.os = W.os) (htp : W'.tape = W.tape) (hout : W'.output = W.output) (hsz : W.heap.size ≤ W'.heap.size) (hs : ∀ (i : Nat) (o : Obj), W.heap[i]? = some o → (i < n₀ ∨ (isI o = false ∧ o.isCells = true)) → W'.heap[i]? = some o) (hw : w.heap.size ≤ n₀) (hB : B < n₀) (hnb : nb < n₀) (hkb : kb < n₀) : LJ k n B nb kb w i W' := by
  obtain ⟨⟨g, m, c, h1, h2, h3⟩, ⟨h4, h5⟩, h6⟩ := h
  have hb : ∀ i, i < W.heap.size → i < n₀ → W'.heap[i]? = W.heap[i]? := fun i hi hn => by
    rw [Array.getElem?_eq_getElem hi]
    exact hs _ _ (Array.getElem?_eq_getElem hi) (.inl hn)
  exact ⟨⟨g, m, c, hs _ _ h1 (.inl hB), h2, h3.moves (fun i o hx h7 h8 => hs i o hx (.inr ⟨h7, h8⟩))⟩, ⟨(World.cell?_of_block (hb _ (World.block_lt_of_cell? W _ h4) hnb)).trans h4, (World.cell?_of_block (hb _ (World.block_lt_of_cell? W _ h5) hkb)).trans h5⟩, hos.trans h6.os, htp.trans h6.tape, hout.trans h6.output, Nat.le_trans h6.size hsz, fun i hi => (hb i (Nat.lt_of_lt_of_le hi h6.size) (Nat.lt_of_lt_of_le hi hw)).trans (h6.block i hi)⟩
theorem slClipL_any (g n c : Nat) (w : World) (hn : n ≤ c) :
    Calls Try.prog 36 #[.slice (some ⟨g, 0, none⟩) n c] w fun e w' => e = .returned (.slice (some ⟨g, 0, none⟩) n n) ∧ w = w' := by
  go_enter Try.func36, Try.ntmps36
  go_wp2
  go_ret
  exact ⟨rfl, rfl⟩
theorem legal_no (k n : Int) (w : World) (h : ringB k n = false) :
    Calls Try.prog 17 #[.int .i64 k, .int .i64 n] w fun e w' => e = .returned (.slice none 0 0) ∧ Keeps w w' := by
  have H := Lib.hid h
  clear h
  refine callsIn_wide.1 (callsIn_of_wp_marks (n := 3) Try.func17 rfl trivial (wpIn_mono (wpIn_wide.2 ?_) leaveM_post) rfl)
  simp only [Try.ntmps17, List.size_toArray, List.length_cons, List.length_nil, Nat.reduceAdd, Nat.reduceSub, Array.replicate_succ, Array.replicate_zero, List.push_toArray, List.append_toArray, List.nil_append, List.cons_append]
  go_wp2_with fail
  refine (ringOk_any k n _).mono ?_
  rintro e w1 ⟨rfl, rfl⟩
  rw [H.out]
  go_wp2_with fail
  refine postM_plain rfl (v := .slice none 0 0) ?_ ⟨rfl, Keeps.refl _⟩
  simp [results, Try.results17, go_sem]
set_option maxRecDepth 100000 in
set_option maxHeartbeats 2000000 in
theorem legal_yes (k n : Nat) (w : World) (hk2 : 2 ≤ k) (hk5 : k ≤ 5) (hn2 : 2 ≤ n) (hn5 : n ≤ 5) (hok : ringB k n = true) :
    Calls Try.prog 17 #[.int .i64 k, .int .i64 n] w fun e w' => ∃ A m c, e = .returned (.slice A m c) ∧ Keeps w w' := by
  have HP : Hid (k ^ n ≤ 3125) := Lib.hid (pow5 hk5 hn5)
  refine callsIn_wide.1 (callsIn_of_wp_marks (n := 3) Try.func17 rfl trivial (wpIn_mono (wpIn_wide.2 ?_) leaveM_post) rfl)
  simp only [Try.ntmps17, List.size_toArray, List.length_cons, List.length_nil, Nat.reduceAdd, Nat.reduceSub, Array.replicate_succ, Array.replicate_zero, List.push_toArray, List.append_toArray, List.nil_append, List.cons_append]
  go_wp2_with fail
  refine (ringOk_any k n _).mono ?_
  rintro e w1 ⟨rfl, rfl⟩
  rw [hok]
  go_wp2_with fail
  have HB3 : Hid (Blk ((w.alloc (.cells #[] 23)).alloc (.cells #[.slice (some ⟨w.heap.size, 0, none⟩) 0 0] 38)) (w.heap.size + 1) 38 #[.slice (some ⟨w.heap.size, 0, none⟩) 0 0]) := Lib.hid (by
    have h := Blk.new (w.alloc (.cells #[] 23)) #[.slice (some ⟨w.heap.size, 0, none⟩) 0 0] 38
    rwa [World.size_alloc] at h)
  have HO3 : Hid (OwnLs ((w.alloc (.cells #[] 23)).alloc (.cells #[.slice (some ⟨w.heap.size, 0, none⟩) 0 0] 38)) w.heap.size (some ⟨w.heap.size, 0, none⟩) 0 0) := Lib.hid ((OwnLs.made w w.heap.size (Nat.le_refl _)).keeps (Keeps.alloc _ _))
  have HK3 : Hid (Keeps w ((w.alloc (.cells #[] 23)).alloc (.cells #[.slice (some ⟨w.heap.size, 0, none⟩) 0 0] 38))) := Lib.hid ((Keeps.alloc w _).step (Keeps.alloc _ _))
  generalize ((w.alloc (.cells #[] 23)).alloc (.cells #[.slice (some ⟨w.heap.size, 0, none⟩) 0 0] 38)) = w3 at *
  refine (states_any k n _).mono ?_
  rintro e w4 ⟨nb, kb, rfl, hrd, hnb, hkb, hk4⟩
  have HJ0 : Hid (LJ k n (w.heap.size + 1) nb kb w 0 w4) := Lib.hid ⟨⟨_, 0, 0, HB3.out.keeps hk4, ⟨Nat.le_refl _, by have := HB3.out.lt; omega, by have := HB3.out.lt; omega⟩, HO3.out.keeps hk4⟩, hrd, HK3.out.step hk4⟩
  have HL : Hid (w.heap.size + 1 < w4.heap.size ∧ nb < w4.heap.size ∧ kb < w4.heap.size ∧ w.heap.size ≤ w4.heap.size) := Lib.hid ⟨(HB3.out.keeps hk4).lt, World.block_lt_of_cell? w4 _ hrd.1, World.block_lt_of_cell? w4 _ hrd.2, HJ0.out.keeps.size⟩
  have HNB : Hid (w.heap.size + 1 ≠ nb ∧ w.heap.size + 1 ≠ kb) := Lib.hid (by have := HB3.out.lt; omega)
  clear hrd hk4 hnb hkb
  go_wp2_with fail
  refine wp_overST 6 rfl (fun _ _ => rfl) (states_iterT k n nb kb w4.heap.size hk2 hk5 hn2 hn5) (fun W W' h i o hx hc => h.same i o hx (.inr (by cases o <;> first | rfl | cases hc))) (LJ k n (w.heap.size + 1) nb kb w) (fun W => False)
    (fun i W W' h m => h.low w4.heap.size m.os m.tape m.output m.size (fun i o hx hc => m.same i o hx (hc.imp id (fun h => h.2))) HL.out.2.2.2 HL.out.1 HL.out.2.1 HL.out.2.2.1)
    (fun W W' h m => h.elim)
    (fun i W W' h m => h.low w4.heap.size m.os m.tape m.output m.size (fun i o hx hc => m.same i o hx (hc.imp id (fun h => h.1))) HL.out.2.2.2 HL.out.1 HL.out.2.1 HL.out.2.2.1)
    (fun i W h => h.rd) (fun i v W W' h m => let ⟨g, c, e, hc, hI⟩ := h; ⟨g, c, e, hc, m.ints hI⟩) HJ0.out ?assign ?body ?done ?stop
  case assign =>
    intro l i v W K _ hK
    gi_wp2
    exact hK
  case stop =>
    rintro W hx hD
    exact hx.elim
  case done =>
    rintro W hj hD
    obtain ⟨⟨g, m, c, h1, h2, h3⟩, _, h6⟩ := hj
    have HK := Lib.hid h6
    have HD := Lib.hid hD
    have s0 : W.cell? ⟨w.heap.size + 1, 0, none⟩ = some (.slice (some ⟨g, 0, none⟩) m c) := by rw [h1.cell]; rfl
    have HC := Lib.hid h3.clip
    clear h1 h2 h3 h6 hD
    simp only [Exit.inBlock, Exit.then]
    go_at_K
    go_wp2_with fail
    refine (slClipL_any g m c W HC.out.1).mono ?_
    rintro e w1 ⟨rfl, rfl⟩
    go_wp2_with fail
    refine postM_ret (v := .slice (some ⟨g, 0, none⟩) m m) rfl HD.out ?_ ⟨_, _, _, rfl, HK.out.putC HL.out.2.2.2 _⟩
    simp [results, Try.results17, go_sem]
  case body =>
    rintro l i v W hi hsW hj ⟨gg, cc, rfl, hcc, hIg⟩
    have hcall := itokens_any (some ⟨gg, 0, none⟩) n cc (digN k n i) W hn2 hn5 hIg
    obtain ⟨⟨g, m, c, h1, h2, h3⟩, h5, h6⟩ := hj
    have HGG := Lib.hid hcc
    clear hcc
    have HB := Lib.hid h1
    have HO := Lib.hid h3
    have HR := Lib.hid h5
    have HK := Lib.hid h6
    obtain ⟨hm, hgnb, hgkb⟩ := h2
    clear h1 h3 h5 h6 hIg
    dsimp only [List.setIfInBounds_toArray, List.set_cons_zero, List.set_cons_succ]
    gi_wp2
    refine ⟨trivial, (CallsIn.inRound l (callsIn_wide.2 hcall)).mono ?_⟩
    rintro e W2 ⟨g2, c2, rfl, hI2, hc1, hc2, hg2, hk2⟩
    have HK2 := Lib.hid hk2
    have HB2 := Lib.hid (HB.out.keeps hk2)
    have HO2 := Lib.hid (HO.out.keeps hk2)
    have HR2 : Hid (RdStates k n nb kb W2) := Lib.hid ⟨cell_keeps hk2 HR.out.1, cell_keeps hk2 HR.out.2⟩
    have HKK2 := Lib.hid (HK.out.step hk2)
    clear hI2 hk2 hcall HB HO HR HK
    have hL := tks_bd (n := n) (s := digN k n i) n
    generalize (tks n (digN k n i) n).length = L at *
    by_cases h1 : L = 1
    · subst h1
      have kk : Keeps W2 (W2.drew.alloc (.cells #[.slice (some ⟨gg, 0, none⟩) n n] 23)) := (Keeps.drew1 W2).step (Keeps.alloc _ _)
      obtain ⟨xs, hown⟩ := HO2.out.keeps kk
      have hbn : Blk (W2.drew.alloc (.cells #[.slice (some ⟨gg, 0, none⟩) n n] 23)) W2.heap.size 23 #[.slice (some ⟨gg, 0, none⟩) n n] := Blk.new W2.drew _ _
      obtain ⟨i0, hi0, hz0, hz1, hz2⟩ := info_parts info_intsL
      obtain ⟨g6, c6, w6, hrun, hO6, hg6, hor, _⟩ := run_append_lies (P := Try.prog) (W2.drew.alloc (.cells #[.slice (some ⟨gg, 0, none⟩) n n] 23)) 38 38 w.heap.size 23 i0 (.slice none 0 0) 1 24 Try.underlying38 hi0 hz0 hz1 hz2 rfl (by omega) _ m xs hown ⟨W2.heap.size, 0, none⟩ 1 1 [.slice (some ⟨gg, 0, none⟩) n n] rfl (World.news_of_block hbn) (by simp [Value.oneCell']) (by omega) (by have := HP.out; unfold maxLen; omega) (by have := HP.out; omega) (Nat.le_trans HKK2.out.size kk.size) _ rfl
      have hB6 : Blk w6 (w.heap.size + 1) 38 #[.slice (some ⟨g, 0, none⟩) m c] := (HB2.out.keeps kk).grown hg6 (own_other' hown (HB2.out.keeps kk) (by decide))
      have s2 : W2.cell? ⟨w.heap.size + 1, 0, none⟩ = some (.slice (some ⟨g, 0, none⟩) m c) := by rw [HB2.out.cell]; rfl
      have s6 : w6.cell? ⟨w.heap.size + 1, 0, none⟩ = some (.slice (some ⟨g, 0, none⟩) m c) := by rw [hB6.cell]; rfl
      have f6 := hB6.frozen 0
      have hlt2 := HB2.out.lt
      have hK6 : Keeps w w6 := (HKK2.out.step kk).grown hown (Nat.le_refl _) hg6
      have HEND : Hid (AboveT w4.heap.size W (w6.setCell ⟨w.heap.size + 1, 0, none⟩ (.slice (some ⟨g6, 0, none⟩) (m + 1) c6)) ∧ LJ k n (w.heap.size + 1) nb kb w (i + 1) (w6.setCell ⟨w.heap.size + 1, 0, none⟩ (.slice (some ⟨g6, 0, none⟩) (m + 1) c6))) := Lib.hid (by
        have hkn : ∀ x, x < w4.heap.size → g ≠ x → g6 ≠ x := fun x hx hne => by
          rcases hor with e | e
          · have e : g = g6 := by simpa [Value.ownBlock] using e
            omega
          · have := HK2.out.size
            simp at e
            omega
        have hcell : ∀ (a : Addr) (v : Value), g ≠ a.block → W2.cell? a = some v → w6.cell? a = some v := fun a v hne hc => World.grownBy.cell hg6 (cell_keeps kk hc) (fun e => hne (by simpa [Value.ownBlock] using e.symm))
        refine ⟨?_, ⟨⟨g6, m + 1, c6, hB6.set 0 _, ⟨by omega, hkn nb HL.out.2.1 hgnb, hkn kb HL.out.2.2.1 hgkb⟩, _, own_kept hO6 (grown_set _ _ _ _) (own_other hO6 hB6 (by decide))⟩, ⟨?_, ?_⟩, Below.setCell hK6 (Nat.le_succ _) _⟩⟩
        · refine AboveT.setCell ⟨Nat.le_trans HK2.out.size (Nat.le_trans kk.size hg6.size), fun j o hj hx ho => ?_⟩ HL.out.1 _
          have hx1 := (HK2.out.block j (Array.getElem?_eq_some_iff.1 hx).1).trans hx
          have hx2 := (kk.block j (Array.getElem?_eq_some_iff.1 hx1).1).trans hx1
          refine (hg6.block j (Array.getElem?_eq_some_iff.1 hx2).1 (fun e => ?_)).trans hx2
          have e : j = g := by simpa [Value.ownBlock] using e
          subst e
          obtain ⟨_, h2 | ⟨g', cap, cur, hv, hb, hgc, rest⟩⟩ := hown
          · cases h2.1
          · cases hv
            rw [hx2] at hgc
            cases hgc
            cases ho
        · exact cell_set_far (hcell _ _ hgnb HR2.out.1) HNB.out.1
        · exact cell_set_far (hcell _ _ hgkb HR2.out.2) HNB.out.2)
      have HOwn := Lib.hid hown
      have HB6 := Lib.hid hB6
      have HO6 := Lib.hid hO6
      have HG6 := Lib.hid hg6
      have HOR := Lib.hid hor
      clear hown hB6 hO6 hg6 hor hbn kk hz0 hz1 hz2 hi0
      gi_wp2
      refine wpIn_region_any (by kernel_rfl) ?_
      try (change wpAnyIn _ _ _ _ _ _ _ _ _ (World.drew _))
      -- drawn: from here
      refine wpAnyIn_ready (rs := [0, 1]) (by kernel_rfl) (by simp) ?_
      refine AllReadyIn.cons rfl (fun K hK => ?_) ?_
      · go_simp
        refine hK _ _ ?_
        clear hK K
        refine wpAnyIn_ready (rs := [1]) (by kernel_rfl) (by simp) ?_
        refine AllReadyIn.cons rfl (fun K hK => ?_) ?_
        · go_simp
          refine hK _ _ ?_
          clear hK K
          refine wpAnyIn_ready (rs := [2]) (by kernel_rfl) (by simp) ?_
          refine AllReadyIn.cons rfl (fun K hK => ?_) ?_
          · go_simp
            gi_wp2_with fail
            refine ⟨trivial, (CallsIn.inRound l (callsIn_wide.2 (slClip_any gg n cc _ HGG.out))).mono ?_⟩
            rintro e w' ⟨rfl, rfl⟩
            simp only []
            refine hK _ _ ?_
            clear hK K
            refine wpAnyIn_ready (rs := [3]) (by kernel_rfl) (by simp) ?_
            refine AllReadyIn.cons rfl (fun K hK => ?_) ?_
            · go_simp
              refine hK _ _ ?_
              clear hK K
              refine wpAnyIn_ready (rs := [4]) (by kernel_rfl) (by simp) ?_
              refine AllReadyIn.cons rfl (fun K hK => ?_) AllReadyIn.nil
              refine stepIn_run rfl (.tmp 20) (.tmp 23) 38 rfl hrun ?_
              refine hK _ _ ?_
              clear hK K
              go_simp
              refine wpAnyIn_ready (rs := [5]) (by kernel_rfl) (by simp) ?_
              refine AllReadyIn.cons rfl (fun K hK => ?_) AllReadyIn.nil
              go_simp
              refine hK _ _ ?_
              clear hK K
              refine wpAnyIn_done (by kernel_rfl) ?_ _
              gi_wp2
              exact HEND.out
            exact AllReadyIn.nil
          exact AllReadyIn.nil
        exact AllReadyIn.nil
      refine AllReadyIn.cons rfl (fun K hK => ?_) ?_
      · go_simp
        refine hK _ _ ?_
        clear hK K
        refine wpAnyIn_ready (rs := [0, 2]) (by kernel_rfl) (by simp) ?_
        refine AllReadyIn.cons rfl (fun K hK => ?_) ?_
        · go_simp
          refine hK _ _ ?_
          clear hK K
          refine wpAnyIn_ready (rs := [2]) (by kernel_rfl) (by simp) ?_
          refine AllReadyIn.cons rfl (fun K hK => ?_) ?_
          · go_simp
            gi_wp2_with fail
            refine ⟨trivial, (CallsIn.inRound l (callsIn_wide.2 (slClip_any gg n cc _ HGG.out))).mono ?_⟩
            rintro e w' ⟨rfl, rfl⟩
            simp only []
            refine hK _ _ ?_
            clear hK K
            refine wpAnyIn_ready (rs := [3]) (by kernel_rfl) (by simp) ?_
            refine AllReadyIn.cons rfl (fun K hK => ?_) ?_
            · go_simp
              refine hK _ _ ?_
              clear hK K
              refine wpAnyIn_ready (rs := [4]) (by kernel_rfl) (by simp) ?_
              refine AllReadyIn.cons rfl (fun K hK => ?_) AllReadyIn.nil
              refine stepIn_run rfl (.tmp 20) (.tmp 23) 38 rfl hrun ?_
              refine hK _ _ ?_
              clear hK K
              go_simp
              refine wpAnyIn_ready (rs := [5]) (by kernel_rfl) (by simp) ?_
              refine AllReadyIn.cons rfl (fun K hK => ?_) AllReadyIn.nil
              go_simp
              refine hK _ _ ?_
              clear hK K
              refine wpAnyIn_done (by kernel_rfl) ?_ _
              gi_wp2
              exact HEND.out
            exact AllReadyIn.nil
          exact AllReadyIn.nil
        refine AllReadyIn.cons rfl (fun K hK => ?_) ?_
        · go_simp
          gi_wp2_with fail
          refine ⟨trivial, (CallsIn.inRound l (callsIn_wide.2 (slClip_any gg n cc _ HGG.out))).mono ?_⟩
          rintro e w' ⟨rfl, rfl⟩
          simp only []
          refine hK _ _ ?_
          clear hK K
          refine wpAnyIn_ready (rs := [0, 3]) (by kernel_rfl) (by simp) ?_
          refine AllReadyIn.cons rfl (fun K hK => ?_) ?_
          · go_simp
            refine hK _ _ ?_
            clear hK K
            refine wpAnyIn_ready (rs := [3]) (by kernel_rfl) (by simp) ?_
            refine AllReadyIn.cons rfl (fun K hK => ?_) ?_
            · go_simp
              refine hK _ _ ?_
              clear hK K
              refine wpAnyIn_ready (rs := [4]) (by kernel_rfl) (by simp) ?_
              refine AllReadyIn.cons rfl (fun K hK => ?_) AllReadyIn.nil
              refine stepIn_run rfl (.tmp 20) (.tmp 23) 38 rfl hrun ?_
              refine hK _ _ ?_
              clear hK K
              go_simp
              refine wpAnyIn_ready (rs := [5]) (by kernel_rfl) (by simp) ?_
              refine AllReadyIn.cons rfl (fun K hK => ?_) AllReadyIn.nil
              go_simp
              refine hK _ _ ?_
              clear hK K
              refine wpAnyIn_done (by kernel_rfl) ?_ _
              gi_wp2
              exact HEND.out
            exact AllReadyIn.nil
          refine AllReadyIn.cons rfl (fun K hK => ?_) ?_
          · go_simp
            refine hK _ _ ?_
            clear hK K
            refine wpAnyIn_ready (rs := [0]) (by kernel_rfl) (by simp) ?_
            refine AllReadyIn.cons rfl (fun K hK => ?_) ?_
            · go_simp
              refine hK _ _ ?_
              clear hK K
              refine wpAnyIn_ready (rs := [4]) (by kernel_rfl) (by simp) ?_
              refine AllReadyIn.cons rfl (fun K hK => ?_) AllReadyIn.nil
              refine stepIn_run rfl (.tmp 20) (.tmp 23) 38 rfl hrun ?_
              refine hK _ _ ?_
              clear hK K
              go_simp
              refine wpAnyIn_ready (rs := [5]) (by kernel_rfl) (by simp) ?_
              refine AllReadyIn.cons rfl (fun K hK => ?_) AllReadyIn.nil
              go_simp
              refine hK _ _ ?_
              clear hK K
              refine wpAnyIn_done (by kernel_rfl) ?_ _
              gi_wp2
              exact HEND.out
            exact AllReadyIn.nil
          exact AllReadyIn.nil
        exact AllReadyIn.nil
      exact AllReadyIn.nil
      -- drawn: to here
    · have h1' : ((L : Int) == 1) = false := by simp; omega
      gi_wp2
      exact ⟨AboveT.ofKeeps HK2.out, ⟨⟨g, m, c, HB2.out, ⟨by omega, hgnb, hgkb⟩, HO2.out⟩, HR2.out, HKK2.out⟩⟩
end Go.Proofs.Ytpgipkcbdppplaa
