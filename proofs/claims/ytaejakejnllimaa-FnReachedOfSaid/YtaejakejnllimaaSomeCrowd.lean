/-
  The drawn rules and crowd: whatever the code is. Condition: at most a thousand picks so far.
-/
import Derived.Test.YtaejakejnllimaaSomeRules
namespace Go.Proofs.Ytaejakejnllimaa
set_option linter.unusedVariables false
set_option maxRecDepth 100000
open Go.RowKit

/-- A crowd that is being drawn. -/
structure CSt (b V gc n j q : Nat) (w wA w1 : World) (l : List Int) (cs : Array Value) (wr : World) : Prop where
  res : Blk wr w.heap.size 26 #[.slice none 0 0, .slice none 0 0, .slice none 0 0]
  box : Blk wr V 26 cs
  crowd : OwnInts wr V (some ⟨gc, 0, none⟩) n n l
  bnd : ∀ x ∈ l, -1 ≤ x ∧ x ≤ (j : Int) + 6
  rd : Rd wr b q
  gro : Gro b w wr
  same : Same wA.heap.size w1.heap.size w1 wr
  blo : b < w.heap.size
  wlo : w.heap.size < wA.heap.size
  vhi : V = w1.heap.size
  alo : wA.heap.size ≤ w1.heap.size
section
variable {b V gc n j q q' : Nat} {w wA w1 : World} {l : List Int} {cs : Array Value} {wr w' : World}
theorem CSt.turn {row : Option Nat} (h : CSt b V gc n j q w wA w1 l cs wr) (hg : wr.grownBy w' row) (hd : ∀ d, row = some d → d ≠ w.heap.size ∧ d ≠ V ∧ d ≠ gc ∧ (d < wA.heap.size ∨ w1.heap.size ≤ d)) (hr : Rd w' b q') (hgr : Gro b w w') : CSt b V gc n j q' w wA w1 l cs w' :=
  ⟨h.res.grown hg (fun e => (hd _ e.symm).1 rfl), h.box.grown hg (fun e => (hd _ e.symm).2.1 rfl), own_kept h.crowd hg (fun k hk e => (hd k e).2.2.1 (by have e2 : gc = k := (by simpa using hk); exact e2.symm)), h.bnd, hr, hgr, fun i a1 a2 => (hg.block i (by have := h.box.lt; have := h.vhi; omega) (fun e => by have := (hd i e.symm).2.2.2; omega)).trans (h.same i a1 a2), h.blo, h.wlo, h.vhi, h.alo⟩
theorem CSt.pick (h : CSt b V gc n j q w wA w1 l cs wr) (hg : Gro b wr w') (hr : Rd w' b q') : CSt b V gc n j q' w wA w1 l cs w' := by
  refine h.turn hg (fun d e => ?_) hr (h.gro.step hg)
  obtain rfl : b = d := by simpa using e
  have h1 := h.blo
  have h2 := h.wlo
  have h3 := h.vhi
  have h4 := h.alo
  have h5 := h.crowd.block
  exact ⟨by omega, by omega, by omega, .inl (by omega)⟩
theorem CSt.step (h : CSt b V gc n j q w wA w1 l cs wr) (k : Keeps wr w') : CSt b V gc n j q w wA w1 l cs w' :=
  h.turn (row := none) ⟨k.os, k.tape, k.output, k.size, fun i hi _ => k.block i hi⟩ (fun d e => by cases e) (h.rd.gro k) (h.gro.step (Gro.ofKeeps k))
theorem CSt.set (h : CSt b V gc n j q w wA w1 l cs wr) (i : Nat) (v : Int) {j' : Nat} (hb : ∀ x ∈ l.set i v, -1 ≤ x ∧ x ≤ (j' : Int) + 6) : CSt b V gc n j' q w wA w1 (l.set i v) cs (wr.setCell ⟨gc, i, none⟩ (.int .i64 v)) := by
  have h1 := h.blo
  have h2 := h.wlo
  have h3 := h.vhi
  have h4 := h.alo
  have h5 := h.crowd.block
  have hg := grown_set wr gc i (.int .i64 v)
  have hS : (some (⟨gc, 0, none⟩ : Addr)).map (·.block) = some gc := rfl
  exact ⟨h.res.grown hg (fun e => own_other' h.crowd h.res (by decide) (by rw [e, hS])), h.box.grown hg (fun e => own_other' h.crowd h.box (by decide) (by rw [e, hS])), h.crowd.set i v, hb, h.rd.grown hg (fun d e => by have e2 : gc = d := (by simpa using e); omega), gro_above (d := 0) h.gro hg (fun d e => by have e2 : gc = d := (by simpa using e); omega), fun k a1 a2 => (Below.heap_setCell _ _ _ _ (by simp only; omega)).trans (h.same k a1 a2), h.blo, h.wlo, h.vhi, h.alo⟩
theorem CSt.at (h : CSt b V gc n j q w wA w1 l cs wr) (i : Nat) (hi : i < n) : -1 ≤ l.getD i 0 ∧ l.getD i 0 ≤ (j : Int) + 6 := h.bnd _ (mem_getD (by rw [h.crowd.len]; exact hi))
end
/-- Drawn rules and a drawn list of numbers. -/
def CrowdDrawn (b : Nat) (w : World) (e : Ending) (w' : World) : Prop :=
  ∃ (S A B : Option Addr) (nS cS nA cA nB cB g m c : Nat) (s : Nat → Int) (rA rB : Nat → Option Addr × Nat × Nat) (f gg : Nat → Nat → Int) (l : List Int), e = .returned (.tuple #[.agg #[.slice S nS cS, .slice A nA cA, .slice B nB cB], .slice (some ⟨g, 0, none⟩) m c]) ∧ (∀ W, (∀ i, w.heap.size < i → i < w'.heap.size → W.heap[i]? = w'.heap[i]?) → RulAt W S nS s A nA rA f B nB rB gg ∧ OwnInts W w.heap.size (some ⟨g, 0, none⟩) m c l) ∧ m ≤ 5 ∧ Gro b w w' ∧ w.heap.size < w'.heap.size
set_option maxHeartbeats 8000000 in
theorem someCrowd_any (b p : Nat) (w : World) (h : Rd w b p) (hp : p ≤ 900) :
    Calls Try.prog 31 #[.pointer (some ⟨b, 0, none⟩)] w (CrowdDrawn b w) := by
  have HR := Lib.hid h
  have hbw := HR.out.lt
  clear h
  have HB0 := Lib.hid (Blk.new w #[.slice none 0 0, .slice none 0 0, .slice none 0 0] 26)
  have HR0 := Lib.hid (HR.out.gro (Keeps.alloc w (.cells #[.slice none 0 0, .slice none 0 0, .slice none 0 0] 26)))
  have HG0 : Hid (Gro b w (w.alloc (.cells #[.slice none 0 0, .slice none 0 0, .slice none 0 0] 26))) := Lib.hid (Gro.ofKeeps (Keeps.alloc w _))
  have HS0 : Hid (w.heap.size < (w.alloc (.cells #[.slice none 0 0, .slice none 0 0, .slice none 0 0] 26)).heap.size) := Lib.hid (by simp)
  go_enter Try.func31, Try.ntmps31
  go_wp2_with fail
  generalize w.alloc (.cells #[.slice none 0 0, .slice none 0 0, .slice none 0 0] 26) = wA at *
  refine (someRules_any b p wA HR0.out (by omega)).mono ?_
  rintro e w1 ⟨v, S, A, B, nS, cS, nA, cA, nB, cB, s, rA, rB, f, gg, q, rfl, hD⟩
  obtain rfl := hD.val
  have hn1 := hD.one
  have hn4 := hD.four
  have hq := hD.few
  have HAT := Lib.hid hD.at'
  have HW1 : Hid (wA.heap.size ≤ w1.heap.size) := Lib.hid hD.gro.size
  have HC : Hid (CSt b w1.heap.size (w1.heap.size + 1) nS 0 q w wA w1 (List.replicate nS 0) #[.slice S nS cS, .slice A nA cA, .slice B nB cB] ((w1.alloc (.cells #[.slice S nS cS, .slice A nA cA, .slice B nB cB] 26)).alloc (.cells (madeCells #[.int .i64 0] nS) 3))) := Lib.hid (by
    have hk := (Keeps.alloc w1 (.cells #[.slice S nS cS, .slice A nA cA, .slice B nB cB] 26)).step (Keeps.alloc _ (.cells (madeCells #[.int .i64 0] nS) 3))
    refine ⟨(HB0.out.grown hD.gro (by simp; omega)).keeps hk, (Blk.new w1 _ _).keeps (Keeps.alloc _ _), ?_, fun x hx => ?_, hD.rd.gro hk, (HG0.out.step hD.gro).step (Gro.ofKeeps hk), fun i a1 a2 => hk.block i a2, hbw, HS0.out, rfl, HW1.out⟩
    · have h := OwnInts.make (w1.alloc (.cells #[.slice S nS cS, .slice A nA cA, .slice B nB cB] 26)) w1.heap.size nS (by simp) (by omega)
      rw [World.size_alloc] at h
      exact h
    · have := List.eq_of_mem_replicate hx
      omega)
  have hmk := make_ints nS (by omega)
  clear hD HB0 HR0 HG0 HS0
  go_wp2_with fail
  have HZ2 : Hid (w1.heap.size + 1 + 1 = ((w1.alloc (.cells #[.slice S nS cS, .slice A nA cA, .slice B nB cB] 26)).alloc (.cells (madeCells #[.int .i64 0] nS) 3)).heap.size) := Lib.hid (by simp)
  generalize (w1.alloc (.cells #[.slice S nS cS, .slice A nA cA, .slice B nB cB] 26)).alloc (.cells (madeCells #[.int .i64 0] nS) 3) = w2 at *
  refine (one_lit b q [4, 3, 5, 2, 1, 0] 0 5 _ _ _ w2 (by decide) (by decide) (by decide) (by omega) HC.out.rd rfl HZ2.out rfl).mono ?_
  rintro e w3 ⟨N, rfl, hN1, hN2, hR3, hG3⟩
  obtain ⟨N, rfl⟩ := Int.eq_ofNat_of_zero_le hN1
  have HC3 := Lib.hid ((HC.out.step (Keeps.alloc w2 (.cells ([4, 3, 5, 2, 1, 0].map (Value.int .i64)).toArray 3))).pick hG3 hR3)
  have hN5 : N ≤ 5 := by omega
  clear hR3 hG3 HC hN1 hN2 hmk HZ2
  generalize hV : w1.heap.size = V at *
  clear hV
  go_wp2_with fail
  go_loopw [6] (fun i wr => ∃ (j k q' : Nat) (l : List Int), i = .int .i64 k ∧ j + k = N ∧ q' ≤ q + 1 + 3 * j ∧ Hid (CSt b V (V + 1) nS j q' w wA w1 l #[.slice S nS cS, .slice A nA cA, .slice B nB cB] wr)) (fun i _ => (intOf i).toNat)
  case atStart => exact ⟨0, N, q + 1, _, rfl, by omega, by omega, HC3⟩
  case round =>
    clear HC3
    obtain ⟨j, k, q', l, rfl, hjk, hq', HC⟩ := hrel
    by_cases hk : k = 0
    · subst hk
      go_wp2_with fail
      refine (pick_any b q' 30 wr HC.out.rd (by omega)).mono ?_
      rintro e w5 ⟨t, rfl, ht, hR5, hG5⟩
      have HC5 := Lib.hid (HC.out.pick hG5 hR5)
      clear hR5 hG5 HC
      by_cases h0 : t = 0
      · subst h0
        have HSZ := Lib.hid HC5.out.box.lt
        have hcx := HC5.out.crowd.cell 0 (by omega)
        have hni : (0 : Int) < (nS : Int) := by omega
        go_wp2_with fail
        refine (one_lit b (q' + 1) [-1, 6] (-1) 6 _ _ _ w5 (by decide) (by decide) (by decide) (by omega) HC5.out.rd rfl rfl rfl).mono ?_
        rintro e w6 ⟨v, rfl, hv1, hv2, hR6, hG6⟩
        have HC6 := Lib.hid ((HC5.out.step (Keeps.alloc w5 (.cells ([-1, 6].map (Value.int .i64)).toArray 3))).pick hG6 hR6)
        clear hR6 hG6 hcx
        have c0 := HC6.out.crowd.cell 0 (by omega)
        have f0 := HC6.out.crowd.frozen 0
        go_upto_region 15 with fail
        have HCz := Lib.hid (HC6.out.set 0 v (j' := j) (fun z hz => by
          rcases List.mem_or_eq_of_mem_set hz with h | h
          · exact HC6.out.bnd z h
          · omega))
        clear c0 f0 HC6 HC5 HSZ
        generalize w6.setCell ⟨V + 1, 0, none⟩ (.int .i64 v) = wz at *
        have e0 : wz.cell? ⟨w.heap.size, 0, none⟩ = some (.slice none 0 0) := HCz.out.res.cell 0
        have e1 : wz.cell? ⟨w.heap.size, 1, none⟩ = some (.slice none 0 0) := HCz.out.res.cell 1
        have e2 : wz.cell? ⟨w.heap.size, 2, none⟩ = some (.slice none 0 0) := HCz.out.res.cell 2
        have d0 : wz.cell? ⟨V, 0, none⟩ = some (.slice S nS cS) := HCz.out.box.cell 0
        have d1 : wz.cell? ⟨V, 1, none⟩ = some (.slice A nA cA) := HCz.out.box.cell 1
        have d2 : wz.cell? ⟨V, 2, none⟩ = some (.slice B nB cB) := HCz.out.box.cell 2
        have f0 := HCz.out.res.frozen 0
        have f1 := HCz.out.res.frozen 1
        have f2 := HCz.out.res.frozen 2
        have hwz := HCz.out.res.lt
        have hwa := HCz.out.wlo
        have hal := HCz.out.alo
        have hvl := HCz.out.box.lt
        have hgc := HCz.out.crowd.block
        go_wp2
        have hvh := HCz.out.vhi
        have y1 := ((HCz.out.res.set 0 (.slice S nS cS)).set 1 (.slice A nA cA)).set 2 (.slice B nB cB)
        have z1 := HCz.out.res.set 0 (.slice S nS cS)
        have z2 := z1.set 1 (.slice A nA cA)
        have c0 := y1.cell 0
        have c1 := y1.cell 1
        have c2 := y1.cell 2
        have hgr : Gro b w (((wz.setCell ⟨w.heap.size, 0, none⟩ (.slice S nS cS)).setCell ⟨w.heap.size, 1, none⟩ (.slice A nA cA)).setCell ⟨w.heap.size, 2, none⟩ (.slice B nB cB)) := ((HCz.out.gro.setAbove (by omega) _).setAbove (by omega) _).setAbove (by omega) _
        have hrul := fun (W' : World) (hs : ∀ i, w.heap.size < i → i < (((wz.setCell ⟨w.heap.size, 0, none⟩ (.slice S nS cS)).setCell ⟨w.heap.size, 1, none⟩ (.slice A nA cA)).setCell ⟨w.heap.size, 2, none⟩ (.slice B nB cB)).heap.size → W'.heap[i]? = (((wz.setCell ⟨w.heap.size, 0, none⟩ (.slice S nS cS)).setCell ⟨w.heap.size, 1, none⟩ (.slice A nA cA)).setCell ⟨w.heap.size, 2, none⟩ (.slice B nB cB)).heap[i]?) => HAT.out W' (fun i a1 a2 => by rw [hs i (by omega) (by simp [World.setCell]; omega), Below.heap_setCell _ _ _ _ (by simp only; omega), Below.heap_setCell _ _ _ _ (by simp only; omega), Below.heap_setCell _ _ _ _ (by simp only; omega)]; exact HCz.out.same i a1 (by omega))
        have hcr := (((HCz.out.crowd.grown (grown_set _ _ 0 (.slice S nS cS)) HCz.out.res (by decide)).grown (grown_set _ _ 1 (.slice A nA cA)) z1 (by decide)).grown (grown_set _ _ 2 (.slice B nB cB)) z2 (by decide))
        refine bodyPost_ret (v := .tuple #[.agg #[.slice S nS cS, .slice A nA cA, .slice B nB cB], .slice (some ⟨V + 1, 0, none⟩) nS nS]) (by simp [results, Try.results31, go_sem, c0, c1, c2]) rfl ⟨S, A, B, nS, cS, nA, cA, nB, cB, V + 1, nS, nS, s, rA, rB, f, gg, _, rfl, fun W' hs => ⟨hrul W' hs, (show OwnInts W' V _ _ _ _ from own_same' hcr (fun k hk => hs k (by have := own_block hcr k hk; omega) (own_block hcr k hk).2)).mono (by omega)⟩, by omega, hgr, by simp [World.setCell]; omega⟩
      · have h0' : ((t : Int) == 0) = false := by simp; omega
        by_cases h1 : t = 1
        · subst h1
          have d0 : w5.cell? ⟨V, 0, none⟩ = some (.slice S nS cS) := HC5.out.box.cell 0
          have d1 : w5.cell? ⟨V, 1, none⟩ = some (.slice A nA cA) := HC5.out.box.cell 1
          have d2 : w5.cell? ⟨V, 2, none⟩ = some (.slice B nB cB) := HC5.out.box.cell 2
          have f0 := HC5.out.res.frozen 0
          have f1 := HC5.out.res.frozen 1
          have f2 := HC5.out.res.frozen 2
          have e0 : w5.cell? ⟨w.heap.size, 0, none⟩ = some (.slice none 0 0) := HC5.out.res.cell 0
          have e1 : w5.cell? ⟨w.heap.size, 1, none⟩ = some (.slice none 0 0) := HC5.out.res.cell 1
          have e2 : w5.cell? ⟨w.heap.size, 2, none⟩ = some (.slice none 0 0) := HC5.out.res.cell 2
          have hwz := HC5.out.res.lt
          have hvl := HC5.out.box.lt
          have hgc := HC5.out.crowd.block
          have hVw := HC5.out.gro.size
          have hwa := HC5.out.wlo
          have hal := HC5.out.alo
          have hkk : Keeps w5 (w5.alloc (.cells #[.int .i64 0] 3)).drew := (Keeps.alloc _ _).step (Keeps.drew1 _)
          have HC6 := Lib.hid (HC5.out.step hkk)
          have HKS := Lib.hid hkk.size
          have HCL : Hid ((w5.alloc (.cells #[.int .i64 0] 3)).drew.cell? ⟨w5.heap.size, 0, none⟩ = some (.int .i64 0)) := Lib.hid ((Blk.new w5 #[.int .i64 0] 3).cell 0)
          go_upto_region 14 with fail
          go_region_law (first | (refine step_intH rfl (.tmp 53) (.tmp 54) rfl V (some ⟨V + 1, 0, none⟩) nS nS l _ rfl HC6.out.crowd w5.heap.size 0 HCL.out rfl (by omega) (by have := HKS.out; omega) ?_; intro gs c7 w7 hO7 hg7 hor7; have hb7 := HC6.out.res.grown hg7 (own_other' HC6.out.crowd HC6.out.res (by decide)); have hx7 := HC6.out.box.grown hg7 (own_other' HC6.out.crowd HC6.out.box (by decide)); have r0 : w7.cell? ⟨w.heap.size, 0, none⟩ = some (.slice none 0 0) := hb7.cell 0; have r1 : w7.cell? ⟨w.heap.size, 1, none⟩ = some (.slice none 0 0) := hb7.cell 1; have r2 : w7.cell? ⟨w.heap.size, 2, none⟩ = some (.slice none 0 0) := hb7.cell 2; have s0 := hb7.frozen 0; have s1 := hb7.frozen 1; have s2 := hb7.frozen 2; have t0 : w7.cell? ⟨V, 0, none⟩ = some (.slice S nS cS) := hx7.cell 0; have t1 : w7.cell? ⟨V, 1, none⟩ = some (.slice A nA cA) := hx7.cell 1; have t2 : w7.cell? ⟨V, 2, none⟩ = some (.slice B nB cB) := hx7.cell 2; have hz7 := hg7.size))
          all_goals
            simp only [Act.put, List.getElem_toArray, List.getElem_cons_succ, List.getElem_cons_zero, List.setIfInBounds_toArray, List.set_cons_succ, List.set_cons_zero]
            go_wp2
            have hvh := HC6.out.vhi
            have hz8 : w5.heap.size ≤ w7.heap.size := Nat.le_trans HKS.out hz7
            have y1 := ((hb7.set 0 (.slice S nS cS)).set 1 (.slice A nA cA)).set 2 (.slice B nB cB)
            have z1 := hb7.set 0 (.slice S nS cS)
            have z2 := z1.set 1 (.slice A nA cA)
            have k0 := y1.cell 0
            have k1 := y1.cell 1
            have k2 := y1.cell 2
            have hrow : ∀ d, (some (⟨V + 1, 0, none⟩ : Addr)).map (·.block) = some d → d = V + 1 := fun d e => by simpa using e.symm
            have hg6 := gro_above (d := 0) HC6.out.gro hg7 (fun d e => by have := hrow d e; omega)
            have hgr : Gro b w (((w7.setCell ⟨w.heap.size, 0, none⟩ (.slice S nS cS)).setCell ⟨w.heap.size, 1, none⟩ (.slice A nA cA)).setCell ⟨w.heap.size, 2, none⟩ (.slice B nB cB)) := ((hg6.setAbove (by omega) _).setAbove (by omega) _).setAbove (by omega) _
            have hrul := fun (W' : World) (hs : ∀ i, w.heap.size < i → i < (((w7.setCell ⟨w.heap.size, 0, none⟩ (.slice S nS cS)).setCell ⟨w.heap.size, 1, none⟩ (.slice A nA cA)).setCell ⟨w.heap.size, 2, none⟩ (.slice B nB cB)).heap.size → W'.heap[i]? = (((w7.setCell ⟨w.heap.size, 0, none⟩ (.slice S nS cS)).setCell ⟨w.heap.size, 1, none⟩ (.slice A nA cA)).setCell ⟨w.heap.size, 2, none⟩ (.slice B nB cB)).heap[i]?) => HAT.out W' (fun i a1 a2 => by rw [hs i (by omega) (by simp [World.setCell]; omega), Below.heap_setCell _ _ _ _ (by simp only; omega), Below.heap_setCell _ _ _ _ (by simp only; omega), Below.heap_setCell _ _ _ _ (by simp only; omega)]; exact (hg7.block i (by have := HKS.out; omega) (fun e => by have := hrow i e.symm; omega)).trans (HC6.out.same i a1 (by omega)))
            have hcr := (((hO7.grown (grown_set _ _ 0 (.slice S nS cS)) hb7 (by decide)).grown (grown_set _ _ 1 (.slice A nA cA)) z1 (by decide)).grown (grown_set _ _ 2 (.slice B nB cB)) z2 (by decide))
            refine bodyPost_ret (v := .tuple #[.agg #[.slice S nS cS, .slice A nA cA, .slice B nB cB], .slice (some ⟨gs, 0, none⟩) (nS + 1) c7]) (by simp [results, Try.results31, go_sem, k0, k1, k2]) rfl ⟨S, A, B, nS, cS, nA, cA, nB, cB, gs, nS + 1, c7, s, rA, rB, f, gg, _, rfl, fun W' hs => ⟨hrul W' hs, (show OwnInts W' V _ _ _ _ from own_same' hcr (fun k hk => hs k (by have := own_block hcr k hk; omega) (own_block hcr k hk).2)).mono (by omega)⟩, by omega, hgr, by simp [World.setCell]; omega⟩
        · have h1' : ((t : Int) == 1) = false := by simp; omega
          go_upto_region 15 with fail
          have HCz := HC5
          clear HC5
          obtain ⟨wz, hwz0⟩ : ∃ x, x = w5 := ⟨_, rfl⟩
          rw [← hwz0] at HCz ⊢
          clear hwz0
          have e0 : wz.cell? ⟨w.heap.size, 0, none⟩ = some (.slice none 0 0) := HCz.out.res.cell 0
          have e1 : wz.cell? ⟨w.heap.size, 1, none⟩ = some (.slice none 0 0) := HCz.out.res.cell 1
          have e2 : wz.cell? ⟨w.heap.size, 2, none⟩ = some (.slice none 0 0) := HCz.out.res.cell 2
          have d0 : wz.cell? ⟨V, 0, none⟩ = some (.slice S nS cS) := HCz.out.box.cell 0
          have d1 : wz.cell? ⟨V, 1, none⟩ = some (.slice A nA cA) := HCz.out.box.cell 1
          have d2 : wz.cell? ⟨V, 2, none⟩ = some (.slice B nB cB) := HCz.out.box.cell 2
          have f0 := HCz.out.res.frozen 0
          have f1 := HCz.out.res.frozen 1
          have f2 := HCz.out.res.frozen 2
          have hwz := HCz.out.res.lt
          have hwa := HCz.out.wlo
          have hal := HCz.out.alo
          have hvl := HCz.out.box.lt
          have hgc := HCz.out.crowd.block
          go_wp2
          have hvh := HCz.out.vhi
          have y1 := ((HCz.out.res.set 0 (.slice S nS cS)).set 1 (.slice A nA cA)).set 2 (.slice B nB cB)
          have z1 := HCz.out.res.set 0 (.slice S nS cS)
          have z2 := z1.set 1 (.slice A nA cA)
          have c0 := y1.cell 0
          have c1 := y1.cell 1
          have c2 := y1.cell 2
          have hgr : Gro b w (((wz.setCell ⟨w.heap.size, 0, none⟩ (.slice S nS cS)).setCell ⟨w.heap.size, 1, none⟩ (.slice A nA cA)).setCell ⟨w.heap.size, 2, none⟩ (.slice B nB cB)) := ((HCz.out.gro.setAbove (by omega) _).setAbove (by omega) _).setAbove (by omega) _
          have hrul := fun (W' : World) (hs : ∀ i, w.heap.size < i → i < (((wz.setCell ⟨w.heap.size, 0, none⟩ (.slice S nS cS)).setCell ⟨w.heap.size, 1, none⟩ (.slice A nA cA)).setCell ⟨w.heap.size, 2, none⟩ (.slice B nB cB)).heap.size → W'.heap[i]? = (((wz.setCell ⟨w.heap.size, 0, none⟩ (.slice S nS cS)).setCell ⟨w.heap.size, 1, none⟩ (.slice A nA cA)).setCell ⟨w.heap.size, 2, none⟩ (.slice B nB cB)).heap[i]?) => HAT.out W' (fun i a1 a2 => by rw [hs i (by omega) (by simp [World.setCell]; omega), Below.heap_setCell _ _ _ _ (by simp only; omega), Below.heap_setCell _ _ _ _ (by simp only; omega), Below.heap_setCell _ _ _ _ (by simp only; omega)]; exact HCz.out.same i a1 (by omega))
          have hcr := (((HCz.out.crowd.grown (grown_set _ _ 0 (.slice S nS cS)) HCz.out.res (by decide)).grown (grown_set _ _ 1 (.slice A nA cA)) z1 (by decide)).grown (grown_set _ _ 2 (.slice B nB cB)) z2 (by decide))
          refine bodyPost_ret (v := .tuple #[.agg #[.slice S nS cS, .slice A nA cA, .slice B nB cB], .slice (some ⟨V + 1, 0, none⟩) nS nS]) (by simp [results, Try.results31, go_sem, c0, c1, c2]) rfl ⟨S, A, B, nS, cS, nA, cA, nB, cB, V + 1, nS, nS, s, rA, rB, f, gg, _, rfl, fun W' hs => ⟨hrul W' hs, (show OwnInts W' V _ _ _ _ from own_same' hcr (fun k hk => hs k (by have := own_block hcr k hk; omega) (own_block hcr k hk).2)).mono (by omega)⟩, by omega, hgr, by simp [World.setCell]; omega⟩
    · have hki : (0 : Int) < (k : Int) := by omega
      go_wp2_with fail
      refine (pick_any b q' nS wr HC.out.rd (by omega)).mono ?_
      rintro e w5 ⟨x, rfl, hx, hR5, hG5⟩
      have HC5 := Lib.hid (HC.out.pick hG5 hR5)
      clear hR5 hG5 HC
      go_wp2_with fail
      refine (pick_any b (q' + 1) 3 w5 HC5.out.rd (by omega)).mono ?_
      rintro e w6 ⟨t, rfl, ht, hR6, hG6⟩
      have HC6 := Lib.hid (HC5.out.pick hG6 hR6)
      clear hR6 hG6 HC5
      by_cases ht0 : t = 0
      · subst ht0
        have hxn : x < nS := by omega
        have hxi : (x : Int) < nS := by omega
        have hcx := HC6.out.crowd.cell x hxn
        have fx := HC6.out.crowd.frozen x
        have hbx := HC6.out.at x hxn
        have HST : Hid (∀ v : Int, v = l.getD x 0 → CSt b V (V + 1) nS (j + 1) (q' + 1 + 1) w wA w1 (l.set x (v + 1)) #[.slice S nS cS, .slice A nA cA, .slice B nB cB] (w6.setCell ⟨V + 1, x, none⟩ (.int .i64 (v + 1)))) := Lib.hid (fun v hv => HC6.out.set x (v + 1) (fun z hz => by
          rcases List.mem_or_eq_of_mem_set hz with h | h
          · have := HC6.out.bnd z h
            omega
          · omega))
        obtain ⟨vx, hvx⟩ : ∃ v, v = l.getD x 0 := ⟨_, rfl⟩
        rw [← hvx] at hcx hbx
        have HC7 := Lib.hid (HST.out vx hvx)
        have hwx : wrap64 (vx + 1) = vx + 1 := by unfold wrap64; omega
        clear HST hvx HC6
        go_wp2_with fail
        go_roundw
        case rel => exact ⟨j + 1, k - 1, q' + 1 + 1, _, by go_num, by omega, by omega, HC7⟩
        case measure => simp [intOf]; omega
      · have hti : (0 : Int) < (t : Int) := by omega
        go_wp2_with fail
        refine (pick_any b (q' + 1 + 1) (min (nS : Int) 2) w6 HC6.out.rd (by omega)).mono ?_
        rintro e w7 ⟨x2, rfl, hx2, hR7, hG7⟩
        have HC8 := Lib.hid (HC6.out.pick hG7 hR7)
        clear hR7 hG7 HC6
        have hxn : x2 < nS := by omega
        have hxi : (x2 : Int) < nS := by omega
        have hcx := HC8.out.crowd.cell x2 hxn
        have fx := HC8.out.crowd.frozen x2
        have hbx := HC8.out.at x2 hxn
        have HST : Hid (∀ v : Int, v = l.getD x2 0 → CSt b V (V + 1) nS (j + 1) (q' + 1 + 1 + 1) w wA w1 (l.set x2 (v + 1)) #[.slice S nS cS, .slice A nA cA, .slice B nB cB] (w7.setCell ⟨V + 1, x2, none⟩ (.int .i64 (v + 1)))) := Lib.hid (fun v hv => HC8.out.set x2 (v + 1) (fun z hz => by
          rcases List.mem_or_eq_of_mem_set hz with h | h
          · have := HC8.out.bnd z h
            omega
          · omega))
        obtain ⟨vx, hvx⟩ : ∃ v, v = l.getD x2 0 := ⟨_, rfl⟩
        rw [← hvx] at hcx hbx
        have HC9 := Lib.hid (HST.out vx hvx)
        have hwx : wrap64 (vx + 1) = vx + 1 := by unfold wrap64; omega
        clear HST hvx HC8
        go_wp2_with fail
        go_roundw
        case rel => exact ⟨j + 1, k - 1, q' + 1 + 1 + 1, _, by go_num, by omega, by omega, HC9⟩
        case measure => simp [intOf]; omega
end Go.Proofs.Ytaejakejnllimaa
