/-
  impl.DoesMend. No condition.
-/
import Derived.Test.YtpgipkcbdppplaaTokL
namespace Go.Proofs.Ytpgipkcbdppplaa
set_option linter.unusedVariables false
open Go.RowKit
attribute [local go_sem] Oper.semAt_some

/-- All blocks below n₀ are as they were. -/
structure Low (n₀ : Nat) (W W' : World) : Prop where
  os : W'.os = W.os
  tape : W'.tape = W.tape
  output : W'.output = W.output
  size : W.heap.size ≤ W'.heap.size
  same : ∀ i o, W.heap[i]? = some o → i < n₀ → W'.heap[i]? = some o
theorem Moves.low {n₀ : Nat} {W W' : World} (m : Moves n₀ W W') : Low n₀ W W' := ⟨m.os, m.tape, m.output, m.size, fun i o h hi => m.same i o h (.inl hi)⟩
theorem Spare.low {n₀ : Nat} {W W' : World} (m : Spare n₀ W W') : Low n₀ W W' := ⟨m.os, m.tape, m.output, m.size, fun i o h hi => m.same i o h (.inl hi)⟩
section
variable {n₀ : Nat} {w W W' : World}
theorem Low.block (m : Low n₀ W W') {i : Nat} (hi : i < W.heap.size) (h : i < n₀) : W'.heap[i]? = W.heap[i]? := by
  rw [Array.getElem?_eq_getElem hi]
  exact m.same _ _ (Array.getElem?_eq_getElem hi) h
theorem Low.blk (m : Low n₀ W W') {b : Nat} {T : TypeId} {cs : Array Value} (h : Blk W b T cs) (hb : b < n₀) : Blk W' b T cs := m.same _ _ h hb
theorem Low.cell (m : Low n₀ W W') {a : Addr} {v : Value} (h : W.cell? a = some v) (ha : a.block < n₀) : W'.cell? a = some v :=
  (World.cell?_of_block (m.block (World.block_lt_of_cell? W a h) ha)).trans h
theorem Low.ws (m : Low n₀ W W') {bw b1 b2 k N : Nat} {f : Nat → Int} {O : Nat → Prop} (h : WS W bw b1 b2 k N f O) (h0 : bw < n₀) (h1 : b1 < n₀) (h2 : b2 < n₀) : WS W' bw b1 b2 k N f O :=
  h.same (m.block h.box.lt h0) (m.block h.memo.lt h1) (m.block h.opens.lt h2)
theorem Low.two (m : Low n₀ W W') {b1 b2 : Nat} (h : Two b1 b2 w W) (hn : w.heap.size ≤ n₀) : Two b1 b2 w W' :=
  ⟨m.os.trans h.os, m.tape.trans h.tape, m.output.trans h.output, Nat.le_trans h.size m.size, fun i hi h3 h4 => (m.block (Nat.lt_of_lt_of_le hi h.size) (Nat.lt_of_lt_of_le hi hn)).trans (h.block i hi h3 h4)⟩
end
structure DJ (k n bw b1 b2 B B5 nb kb : Nat) (f : Nat → Int) (w : World) (i : Nat) (W : World) : Prop where
  res : Blk W B 4 #[.bool false]
  p : Blk W B5 43 #[.pointer (some ⟨bw, 0, none⟩)]
  ws : WS W bw b1 b2 k (k ^ n) f (fun _ => False)
  rd : RdStates k n nb kb W
  two : Two b1 b2 w W
  all : ∀ x, x < i → 0 ≤ f x
theorem DJ.low {k n bw b1 b2 B B5 nb kb n₀ i : Nat} {f : Nat → Int} {w W W' : World} (h : DJ k n bw b1 b2 B B5 nb kb f w i W) (m : Low n₀ W W') (hn : w.heap.size ≤ n₀) (hB : B < n₀) (h5 : B5 < n₀) (h0 : bw < n₀) (h1 : b1 < n₀) (h2 : b2 < n₀) (h3 : nb < n₀) (h4 : kb < n₀) : DJ k n bw b1 b2 B B5 nb kb f w i W' :=
  ⟨m.blk h.res hB, m.blk h.p h5, m.ws h.ws h0 h1 h2, ⟨m.cell h.rd.1 h3, m.cell h.rd.2 h4⟩, m.two h.two hn, h.all⟩
theorem doesMend_no (k n : Int) (w : World) (h : ringB k n = false) :
    Calls Try.prog 8 #[.int .i64 k, .int .i64 n] w fun e w' => e = .returned (.bool false) ∧ Keeps w w' := by
  have HB := Lib.hid (Blk.new w #[.bool false] 4)
  have HK := Lib.hid (Keeps.alloc w (.cells #[.bool false] 4))
  refine callsIn_wide.1 (callsIn_of_wp_marks (n := 3) Try.func8 rfl trivial (wpIn_mono (wpIn_wide.2 ?_) leaveM_post) rfl)
  simp only [Try.ntmps8, List.size_toArray, List.length_cons, List.length_nil, Nat.reduceAdd, Nat.reduceSub, Array.replicate_succ, Array.replicate_zero, List.push_toArray, List.append_toArray, List.nil_append, List.cons_append]
  go_wp2_with fail
  refine (ringOk_any k n _).mono ?_
  rintro e w1 ⟨rfl, rfl⟩
  rw [h]
  go_wp2_with fail
  refine postM_plain rfl (results_one rfl _ _ rfl (y := false) ?_) ⟨rfl, HK.out⟩
  rw [HB.out.cell]; rfl
theorem doesMend_yes (k n : Nat) (f : Nat → Int) (w : World) (hf : Sol k n f) (hk2 : 2 ≤ k) (hk5 : k ≤ 5) (hn2 : 2 ≤ n) (hn5 : n ≤ 5) (hok : ringB k n = true) :
    Calls Try.prog 8 #[.int .i64 k, .int .i64 n] w fun e w' => e = .returned (.bool (mendB f (k ^ n))) ∧ Keeps w w' := by
  have HF := Lib.hid hf
  have HB := Lib.hid (Blk.new w #[.bool false] 4)
  have HK := Lib.hid (Keeps.alloc w (.cells #[.bool false] 4))
  have HZ : Hid ((w.alloc (.cells #[.bool false] 4)).heap.size = w.heap.size + 1) := Lib.hid (by simp)
  clear hf
  refine callsIn_wide.1 (callsIn_of_wp_marks (n := 3) Try.func8 rfl trivial (wpIn_mono (wpIn_wide.2 ?_) leaveM_post) rfl)
  simp only [Try.ntmps8, List.size_toArray, List.length_cons, List.length_nil, Nat.reduceAdd, Nat.reduceSub, Array.replicate_succ, Array.replicate_zero, List.push_toArray, List.append_toArray, List.nil_append, List.cons_append]
  go_wp2_with fail
  refine (ringOk_any k n _).mono ?_
  rintro e w1 ⟨rfl, rfl⟩
  rw [hok]
  go_wp2_with fail
  refine (worstOf_any k _).mono ?_
  rintro e w2 ⟨bw, rfl, hws, hbw, hk2'⟩
  go_wp2_with fail
  obtain ⟨b1, hb1⟩ : ∃ b1, b1 = (w.alloc (.cells #[.bool false] 4)).heap.size := ⟨_, rfl⟩
  have HB1 : Hid (b1 = w.heap.size + 1) := Lib.hid (by rw [hb1]; exact HZ.out)
  rw [← hb1] at hws
  rw [← hb1] at hbw
  clear hb1
  refine (states_any k n _).mono ?_
  rintro e w4 ⟨nb, kb, rfl, hrd, hnb, hkb, hk4⟩
  have kk4 : Keeps w2 w4 := (Keeps.alloc w2 _).step hk4
  have HJ0 : Hid (DJ k n bw b1 (b1 + 1) w.heap.size w2.heap.size nb kb f w 0 w4) := Lib.hid ⟨(HB.out.keeps hk2').keeps kk4, (Blk.new w2 _ _).keeps hk4, (hws (k ^ n) f).keeps kk4, hrd, Two.ofKeeps ((HK.out.step hk2').step kk4), fun x hx => absurd hx (Nat.not_lt_zero _)⟩
  have HL : Hid (w.heap.size < w4.heap.size ∧ w2.heap.size < w4.heap.size ∧ bw < w4.heap.size ∧ b1 < w4.heap.size ∧ b1 + 1 < w4.heap.size ∧ nb < w4.heap.size ∧ kb < w4.heap.size) := Lib.hid ⟨HJ0.out.res.lt, HJ0.out.p.lt, HJ0.out.ws.box.lt, HJ0.out.ws.memo.lt, HJ0.out.ws.opens.lt, World.block_lt_of_cell? w4 _ hrd.1, World.block_lt_of_cell? w4 _ hrd.2⟩
  have HN2 : Hid (w.heap.size ≠ b1 ∧ w.heap.size ≠ b1 + 1 ∧ w2.heap.size ≠ b1 ∧ w2.heap.size ≠ b1 + 1 ∧ w.heap.size < w2.heap.size) := Lib.hid (by
    have h1 := HB1.out
    have h2 := (hws (k ^ n) f).opens.lt
    omega)
  clear hws hbw hk2' hrd hnb hkb hk4 kk4
  go_wp2_with fail
  refine wp_overS 6 rfl (fun _ _ => rfl) (states_iter k n nb kb w4.heap.size hk2 hk5 hn2 hn5) (fun W W' h i o hx hc => h.same i o hx (.inr hc)) (DJ k n bw b1 (b1 + 1) w.heap.size w2.heap.size nb kb f w) (fun W => Blk W w.heap.size 4 #[.bool false] ∧ Two b1 (b1 + 1) w W ∧ mendB f (k ^ n) = false)
    (fun i W W' h m => h.low m.low (Nat.le_of_lt HL.out.1) HL.out.1 HL.out.2.1 HL.out.2.2.1 HL.out.2.2.2.1 HL.out.2.2.2.2.1 HL.out.2.2.2.2.2.1 HL.out.2.2.2.2.2.2)
    (fun W W' h m => ⟨m.low.blk h.1 HL.out.1, m.low.two h.2.1 (Nat.le_of_lt HL.out.1), h.2.2⟩)
    (fun i W W' h m => h.low m.low (Nat.le_of_lt HL.out.1) HL.out.1 HL.out.2.1 HL.out.2.2.1 HL.out.2.2.2.1 HL.out.2.2.2.2.1 HL.out.2.2.2.2.2.1 HL.out.2.2.2.2.2.2)
    (fun i W h => h.rd) (fun i v W W' h m => let ⟨g, c, e, hI⟩ := h; ⟨g, c, e, m.ints hI⟩) HJ0.out ?assign ?body ?done ?stop
  case assign =>
    intro l i v W K _ hK
    gi_wp2
    exact hK
  case stop =>
    rintro W ⟨hx, ht, hf1⟩ hD
    have HX := Lib.hid hx
    have HD := Lib.hid hD
    have HT := Lib.hid ht
    clear hx ht
    gi_wp2
    refine postM_ret rfl HD.out (results_one rfl _ _ rfl (y := false) ?_) ⟨by rw [hf1], (HT.out.put (Nat.le_of_lt HL.out.1) _).toKeeps (Keeps.refl w) (by have := HB1.out; omega) (by have := HB1.out; omega)⟩
    rw [(HX.out.put (by have := HL.out.1; omega) _).cell]; rfl
  case done =>
    rintro W hj hD
    have HJ := Lib.hid hj
    have HD := Lib.hid hD
    have s0 : W.cell? ⟨w.heap.size, 0, none⟩ = some (.bool false) := by rw [hj.res.cell]; rfl
    have f0 := hj.res.frozen 0
    clear hj hD
    simp only [Exit.inBlock, Exit.then]
    go_at_K
    go_wp2_with fail
    refine postM_ret rfl ((Below.heap_setCell _ _ _ _ (by have := HL.out.1; simp only; omega)).trans HD.out) (results_one rfl _ _ rfl (y := true) ?_) ⟨?_, ((HJ.out.two.setCell (Nat.le_refl _) _).put (Nat.le_of_lt HL.out.1) _).toKeeps (Keeps.refl w) (by have := HB1.out; omega) (by have := HB1.out; omega)⟩
    · rw [((HJ.out.res.set 0 _).put (by have := HL.out.1; omega) _).cell]; rfl
    · have h : anyB (fun x => decide (f x < 0)) (k ^ n) = false := (anyB_false _ _).2 (fun x hx => decide_eq_false (by have := HJ.out.all x hx; omega))
      unfold mendB
      rw [h]
      rfl
  case body =>
    rintro l i v W hi hsW hj ⟨gg, cc, rfl, hIg⟩
    have hcall := from_any k n bw b1 (b1 + 1) f HF.out (k ^ n) cc (fun _ => False) (digN k n i) (some ⟨gg, 0, none⟩) W ⟨hk2, hk5, hn2, hn5, fun j _ => dig_lt (by omega) n i j⟩ hIg hj.ws (Free.start _ _) (fun y hy => hy.elim)
    rw [code_dig (by omega) hi] at hcall
    unfold FromAns at hcall
    have HJ := Lib.hid hj
    have s0 : W.cell? ⟨w2.heap.size, 0, none⟩ = some (.pointer (some ⟨bw, 0, none⟩)) := by rw [hj.p.cell]; rfl
    have HMB : Hid (f i = -1 → mendB f (k ^ n) = false) := Lib.hid (fun h => by unfold mendB; rw [anyB_hit (j := i) (by rw [h]; rfl) hi]; rfl)
    clear hj hIg hi hsW
    dsimp only [List.setIfInBounds_toArray, List.set_cons_zero, List.set_cons_succ]
    gi_wp2
    refine ⟨trivial, (CallsIn.inRound l (callsIn_wide.2 hcall)).mono ?_⟩
    clear hcall
    rintro e W2 ⟨htw, ⟨h0, rfl, hws⟩ | ⟨hm1, rfl⟩⟩
    · obtain ⟨n1, n2, n3, n4, n5⟩ := HN2.out
      obtain ⟨l1, l2, l3, l4, l5, l6, l7⟩ := HL.out
      have HFIN : Hid (Above w4.heap.size W W2 ∧ DJ k n bw b1 (b1 + 1) w.heap.size w2.heap.size nb kb f w (i + 1) W2) := Lib.hid ⟨htw.above l4 l5, ⟨htw.blk HJ.out.res n1 n2, htw.blk HJ.out.p n3 n4, hws, ⟨htw.cell HJ.out.ws HJ.out.rd.1, htw.cell HJ.out.ws HJ.out.rd.2⟩, HJ.out.two.trans htw, fun x hx => by
        by_cases e : x = i
        · rw [e]; exact h0
        · exact HJ.out.all x (by omega)⟩⟩
      clear htw h0 hws n1 n2 n3 n4 n5 l1 l2 l3 l4 l5 l6 l7
      gi_wp2
      exact HFIN.out
    · obtain ⟨n1, n2, n3, n4, n5⟩ := HN2.out
      obtain ⟨l1, l2, l3, l4, l5, l6, l7⟩ := HL.out
      have hr := htw.blk HJ.out.res n1 n2
      have HR := Lib.hid hr
      have HTW := Lib.hid htw
      have HM := Lib.hid (HMB.out hm1)
      have s1 : W2.cell? ⟨w.heap.size, 0, none⟩ = some (.bool false) := by rw [hr.cell]; rfl
      have f1 := hr.frozen 0
      clear htw hr hm1 n1 n2 n3 n4 n5 l1 l2 l3 l4 l5 l6 l7
      gi_wp2
      exact ⟨(HTW.out.above HL.out.2.2.2.1 HL.out.2.2.2.2.1).setCell HL.out.1 _, HR.out.set 0 _, (HJ.out.two.trans HTW.out).setCell (Nat.le_refl _) _, HM.out⟩
end Go.Proofs.Ytpgipkcbdppplaa
