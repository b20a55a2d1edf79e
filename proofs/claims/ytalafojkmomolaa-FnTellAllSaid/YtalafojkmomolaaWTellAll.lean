/-
  The walk of FnTellAll: whatever the code is, it returns true, and nothing that was there turns. No condition.
-/
import Derived.Test.YtalafojkmomolaaTLaw
import Derived.Test.YtalafojkmomolaaTellAll
import Derived.Test.YtalafojkmomolaaEq
import Derived.Test.YtalafojkmomolaaDrawn
import Derived.Test.YtalafojkmomolaaHeldG
namespace Go.Proofs.Ytalafojkmomolaa
open Go.RowKit

/-- What TellAll gives: a view of n0 rows of N numbers x0. -/
def Told (W0 : Int) (n0 N : Nat) (x0 : Nat → Nat → Int) (wx : World) (e : Ending) (w' : World) : Prop :=
  ∃ (A' : Option Addr) (c' : Nat) (r' : Nat → Option Addr × Nat × Nat), e = .returned (.agg #[.int .i64 W0, .slice A' n0 c']) ∧ Rows w' A' n0 r' x0 ∧ (∀ i, i < n0 → (r' i).2.1 = N) ∧ Keeps wx w'
theorem told_of {f : Nat} {args : Array Value} {wx : World} {V S n : Nat} {x : Nat → Nat → Int} (h : Calls Try.prog f args wx fun e w' => ∃ A' c', e = .returned (.agg #[.int .i64 V, .slice A' n c']) ∧ OwnRows w' wx.heap.size A' n c' (tellRR x S V n) ∧ Keeps wx w') :
    Calls Try.prog f args wx (Told V n V (toldX x S V n) wx) := h.mono fun e w' hh => by
  obtain ⟨A', c', he, hO, hK⟩ := hh
  obtain ⟨r', hr, hl, _, _⟩ := hO.rows
  exact ⟨A', c', r', he, hr, fun i hi => by rw [hl i hi, tell_len x S V n i hi], hK⟩
theorem told_none {f : Nat} {args : Array Value} {wx : World} (h : Calls Try.prog f args wx fun e w' => e = .returned (.agg #[.int .i64 0, .slice none 0 0]) ∧ Keeps wx w') :
    Calls Try.prog f args wx (Told 0 0 0 (fun _ _ => 0) wx) := h.mono fun e w' hh => by
  obtain ⟨he, hK⟩ := hh
  exact ⟨none, 0, fun _ => (none, 0, 0), he, fun i hi => absurd hi (Nat.not_lt_zero _), fun i hi => absurd hi (Nat.not_lt_zero _), hK⟩
set_option maxRecDepth 100000 in
set_option maxHeartbeats 16000000 in
theorem FnTellAll_walk (a : Option Addr) (n c : Nat) (w : World) (hB : Bytes w w.heap.size a n) (hc : n ≤ c) (hc2 : c ≤ 9223372036854775807) :
    Calls Try.prog 7 #[.slice a n c] w fun e w' => e = .returned (.bool true) ∧ Keeps w w' := by
  have HB := Lib.hid hB
  clear hB
  by_cases hn : 1048576 < n
  · go_enter Try.func7, Try.ntmps7
    go_wp2
    go_ret
    exact ⟨rfl, Keeps.refl _⟩
  · go_enter Try.func7, Try.ntmps7
    go_wp2_with fail
    refine (drawTellAll_any a n c _ HB.out (by omega) hc hc2).mono ?_
    rintro e w1 ⟨W, m, A, d, L, s, rfl, hO, hm, hL, hK1⟩
    obtain ⟨r, hr, hrl, _, _⟩ := hO.rows
    have hlen : ∀ i, i < m → (r i).2.1 ≤ 1099511627776 := fun i hi => by rw [hrl i hi]; have := hL i hi; omega
    have HR := Lib.hid hr
    have HLEN := Lib.hid hlen
    clear hO hL hr hrl hlen
    generalize (fun i j => (L.getD i []).getD j 0) = x at *
    obtain ⟨W0, n0, N0, x0, hn0, hN0, HIP, HSP, HX0⟩ : ∃ (W0 : Int) (n0 N0 : Nat) (x0 : Nat → Nat → Int), n0 ≤ 1099511627776 ∧ N0 ≤ 16 ∧ Hid (∀ wx, Keeps w1 wx → Calls Try.prog 19 #[.agg #[.int .i64 W, .slice A m d], .int .i64 s] wx (Told W0 n0 N0 x0 wx)) ∧
        Hid (∀ wx, Keeps w1 wx → Calls Try.prog 17 #[.agg #[.int .i64 W, .slice A m d], .int .i64 s] wx (Told W0 n0 N0 x0 wx)) ∧
        Hid (∀ Z S : Nat, W = Z → s = S → setB W m r x s = true → W0 = Z ∧ n0 = m ∧ N0 = Z ∧ x0 = toldX x S Z m) := by
      cases hset : setB W m r x s
      · exact ⟨0, 0, 0, fun _ _ => 0, by omega, by omega, Lib.hid (fun wx hk => told_none (iTellAll_no A m d r x W s wx (by omega) (HR.out.keeps hk) HLEN.out hset)), Lib.hid (fun wx hk => told_none (sTellAll_no A m d r x W s wx (by omega) (HR.out.keeps hk) hset)), Lib.hid (fun _ _ _ _ h => by cases h)⟩
      · obtain ⟨V, S, rfl, rfl, hV1, hV2, hn4, hS, hS2, hrow⟩ := setB_iff W m r x s hset
        exact ⟨V, m, V, toldX x S V m, by omega, hV2, Lib.hid (fun wx hk => told_of (iTellAll_yes A m d V S r x wx (by omega) (HR.out.keeps hk) HLEN.out hset)), Lib.hid (fun wx hk => told_of (sTellAll_yes A m d V S r x wx (by omega) (HR.out.keeps hk) hset)), Lib.hid (fun Z S' e1 e2 _ => by
          have e3 : V = Z := by omega
          have e4 : S = S' := by omega
          subst e3
          subst e4
          exact ⟨rfl, rfl, rfl, rfl⟩)⟩
    go_wp2_with fail
    refine (HIP.out _ (Keeps.alloc _ _)).mono ?_
    rintro e w2 ⟨A0, c0, r0, rfl, hR0, hl0, hK2⟩
    go_wp2_with fail
    have hBv : Blk (w2.alloc (.cells #[.int .i64 W0, .slice A0 n0 c0] 25)) w1.heap.size 25 #[.int .i64 W, .slice A m d] := ((Blk.new w1 _ _).keeps hK2).keeps (Keeps.alloc _ _)
    have hBo := Blk.new w2 #[.int .i64 W0, .slice A0 n0 c0] 25
    have HR0 := Lib.hid (hR0.keeps (Keeps.alloc w2 (.cells #[.int .i64 W0, .slice A0 n0 c0] 25)))
    have HL0 := Lib.hid hl0
    have hK13 := ((Keeps.alloc w1 (.cells #[.int .i64 W, .slice A m d] 25)).step hK2).step (Keeps.alloc w2 (.cells #[.int .i64 W0, .slice A0 n0 c0] 25))
    have HR3 := Lib.hid (HR.out.keeps hK13)
    have zv := hBv.lt
    have zo := hBo.lt
    clear hK2 hR0 hl0 HR HIP
    generalize hw3 : w2.alloc (.cells #[.int .i64 W0, .slice A0 n0 c0] 25) = w3 at *
    clear hw3
    generalize w2.heap.size = Bo at *
    generalize hbv : w1.heap.size = Bv at *
    clear hbv
    have v0 : w3.cell? ⟨Bv, 0, none⟩ = some (.int .i64 W) := by rw [hBv.cell]; rfl
    have v1 : w3.cell? ⟨Bv, 1, none⟩ = some (.slice A m d) := by rw [hBv.cell]; rfl
    have o0 : w3.cell? ⟨Bo, 0, none⟩ = some (.int .i64 W0) := by rw [hBo.cell]; rfl
    have o1 : w3.cell? ⟨Bo, 1, none⟩ = some (.slice A0 n0 c0) := by rw [hBo.cell]; rfl
    clear hBv hBo
    go_upto_region 5 with fail
    go_cut [38] (fun v wx => v = .bool (!setB W m r x s) ∧ Keeps w3 wx)
    case first =>
      cases hv : validB W m r x
      · have HS : Hid (setB W m r x s = false) := Lib.hid (by unfold setB; rw [hv]; rfl)
        have HV := Lib.hid hv
        clear hv
        refine wp_region_held_drew (S := (fun w' => w'.cell? ⟨Bv, 0, none⟩ = some (.int .i64 W) ∧ w'.cell? ⟨Bv, 1, none⟩ = some (.slice A m d) ∧ w'.cell? ⟨Bo, 0, none⟩ = some (.int .i64 W0) ∧ w'.cell? ⟨Bo, 1, none⟩ = some (.slice A0 n0 c0) ∧ Keeps w3 w')) (by kernel_rfl) (⟨v0, v1, o0, o1, Keeps.drew1 _⟩) (fun hHeld => ?_)
        refine take_d 0 (some 17) (v := ?_) rfl (by kernel_rfl) (by kernel_rfl) (by kernel_rfl) (fun _ _ _ h => h) rfl (Or.inl ⟨by rfl, ?_⟩) (by assumption) ?_
        rotate_left
        (focus ((intro w hSw; (try dsimp only at hSw); go_simp); try (with_reducible rfl)))
        try simp only [Act.put, List.setIfInBounds_toArray, List.set_cons_zero, List.set_cons_succ]
        refine take_d 1 (some 18) (v := ?_) rfl (by kernel_rfl) (by kernel_rfl) (by kernel_rfl) (fun _ _ _ h => h) rfl (Or.inl ⟨by rfl, ?_⟩) (by assumption) ?_
        rotate_left
        (focus ((intro w hSw; (try dsimp only at hSw); go_simp); try (with_reducible rfl)))
        try simp only [Act.put, List.setIfInBounds_toArray, List.set_cons_zero, List.set_cons_succ]
        refine take_d 2 (some 19) (v := ?_) rfl (by kernel_rfl) (by kernel_rfl) (by kernel_rfl) (fun _ _ _ h => h) rfl (Or.inl ⟨by rfl, ?_⟩) (by assumption) ?_
        rotate_left
        (focus ((intro w hSw; (try dsimp only at hSw); go_simp); try (with_reducible rfl)))
        try simp only [Act.put, List.setIfInBounds_toArray, List.set_cons_zero, List.set_cons_succ]
        refine call_d 3 (some 20) 17 #[.tmp 18, .tmp 19] #[25, 3] rfl (by kernel_rfl) rfl rfl rfl (fun _ _ => rfl) (by simp [Act.eval]) (HSP.out _ (hK13.step hHeld.2.2.2.2)) ?_
        rintro e w5 ⟨A5, c5, r5, rfl, hR5, hl5, hk5⟩
        refine ⟨_, rfl, ⟨cell_keeps hk5 hHeld.1, cell_keeps hk5 hHeld.2.1, cell_keeps hk5 hHeld.2.2.1, cell_keeps hk5 hHeld.2.2.2.1, hHeld.2.2.2.2.step hk5⟩, ?_⟩
        have hHeld2 : ((fun w' => w'.cell? ⟨Bv, 0, none⟩ = some (.int .i64 W) ∧ w'.cell? ⟨Bv, 1, none⟩ = some (.slice A m d) ∧ w'.cell? ⟨Bo, 0, none⟩ = some (.int .i64 W0) ∧ w'.cell? ⟨Bo, 1, none⟩ = some (.slice A0 n0 c0) ∧ Keeps w3 w')) _ := ⟨cell_keeps hk5 hHeld.1, cell_keeps hk5 hHeld.2.1, cell_keeps hk5 hHeld.2.2.1, cell_keeps hk5 hHeld.2.2.2.1, hHeld.2.2.2.2.step hk5⟩
        clear hHeld
        have hHeld := hHeld2
        clear hHeld2
        try simp only [Act.put, List.setIfInBounds_toArray, List.set_cons_zero, List.set_cons_succ]
        refine call_d 4 (some 21) 28 #[.tmp 17, .tmp 20] #[25, 25] rfl (by kernel_rfl) rfl rfl rfl (fun _ _ => rfl) (by simp [Act.eval]) (eView_true A0 A5 n0 c0 c5 W0 r0 r5 x0 x0 _ hn0 (HR0.out.keeps hHeld.2.2.2.2) hR5 (fun i hi => by rw [HL0.out i hi]; omega) (fun i hi => ⟨by rw [HL0.out i hi, hl5 i hi], fun _ _ => rfl⟩)) ?_
        clear hR5 hl5 hk5
        rintro e w6 ⟨rfl, hk5⟩
        refine ⟨_, rfl, ⟨cell_keeps hk5 hHeld.1, cell_keeps hk5 hHeld.2.1, cell_keeps hk5 hHeld.2.2.1, cell_keeps hk5 hHeld.2.2.2.1, hHeld.2.2.2.2.step hk5⟩, ?_⟩
        have hHeld2 : ((fun w' => w'.cell? ⟨Bv, 0, none⟩ = some (.int .i64 W) ∧ w'.cell? ⟨Bv, 1, none⟩ = some (.slice A m d) ∧ w'.cell? ⟨Bo, 0, none⟩ = some (.int .i64 W0) ∧ w'.cell? ⟨Bo, 1, none⟩ = some (.slice A0 n0 c0) ∧ Keeps w3 w')) _ := ⟨cell_keeps hk5 hHeld.1, cell_keeps hk5 hHeld.2.1, cell_keeps hk5 hHeld.2.2.1, cell_keeps hk5 hHeld.2.2.2.1, hHeld.2.2.2.2.step hk5⟩
        clear hHeld
        have hHeld := hHeld2
        clear hHeld2
        try simp only [Act.put, List.setIfInBounds_toArray, List.set_cons_zero, List.set_cons_succ]
        refine take_d 5 (some 22) (v := ?_) rfl (by kernel_rfl) (by kernel_rfl) (by kernel_rfl) (fun _ _ _ h => h) rfl (Or.inl ⟨by rfl, ?_⟩) (by assumption) ?_
        rotate_left
        (focus ((intro w hSw; (try dsimp only at hSw); go_simp); try (with_reducible rfl)))
        try simp only [Act.put, List.setIfInBounds_toArray, List.set_cons_zero, List.set_cons_succ]
        refine take_d 6 (some 23) (v := ?_) rfl (by kernel_rfl) (by kernel_rfl) (by kernel_rfl) (fun _ _ _ h => h) rfl (Or.inl ⟨by rfl, ?_⟩) (by assumption) ?_
        rotate_left
        (focus ((intro w hSw; (try dsimp only at hSw); go_simp); try (with_reducible rfl)))
        try simp only [Act.put, List.setIfInBounds_toArray, List.set_cons_zero, List.set_cons_succ]
        refine take_d 7 (some 24) (v := ?_) rfl (by kernel_rfl) (by kernel_rfl) (by kernel_rfl) (fun _ _ _ h => h) rfl (Or.inl ⟨by rfl, ?_⟩) (by assumption) ?_
        rotate_left
        (focus ((intro w hSw; (try dsimp only at hSw); go_simp); try (with_reducible rfl)))
        try simp only [Act.put, List.setIfInBounds_toArray, List.set_cons_zero, List.set_cons_succ]
        refine call_g 8 (some 25) 29 #[.tmp 24] #[25] rfl (by kernel_rfl) rfl (by rfl) rfl (fun _ _ => rfl) (by simp [Act.eval]) (validView_any A m d r x W _ (by omega) (HR3.out.keeps hHeld.2.2.2.2) HLEN.out) ?_
        clear hk5
        rintro e w7 ⟨rfl, hk5⟩
        rw [HV.out]
        refine ⟨_, rfl, ⟨cell_keeps hk5 hHeld.1, cell_keeps hk5 hHeld.2.1, cell_keeps hk5 hHeld.2.2.1, cell_keeps hk5 hHeld.2.2.2.1, hHeld.2.2.2.2.step hk5⟩, ?_⟩
        have hHeld2 : ((fun w' => w'.cell? ⟨Bv, 0, none⟩ = some (.int .i64 W) ∧ w'.cell? ⟨Bv, 1, none⟩ = some (.slice A m d) ∧ w'.cell? ⟨Bo, 0, none⟩ = some (.int .i64 W0) ∧ w'.cell? ⟨Bo, 1, none⟩ = some (.slice A0 n0 c0) ∧ Keeps w3 w')) _ := ⟨cell_keeps hk5 hHeld.1, cell_keeps hk5 hHeld.2.1, cell_keeps hk5 hHeld.2.2.1, cell_keeps hk5 hHeld.2.2.2.1, hHeld.2.2.2.2.step hk5⟩
        clear hHeld
        have hHeld := hHeld2
        clear hHeld2
        try simp only [Act.put, List.setIfInBounds_toArray, List.set_cons_zero, List.set_cons_succ]
        refine take_d 9 (some 26) (v := ?_) rfl (by kernel_rfl) (by kernel_rfl) (by kernel_rfl) (fun _ _ _ h => h) rfl (Or.inl ⟨by rfl, ?_⟩) (by assumption) ?_
        rotate_left
        (focus ((intro w hSw; (try dsimp only at hSw); go_simp); try (with_reducible rfl)))
        try simp only [Act.put, List.setIfInBounds_toArray, List.set_cons_zero, List.set_cons_succ]
        refine take_d 10 (some 27) (v := ?_) rfl (by kernel_rfl) (by kernel_rfl) (by kernel_rfl) (fun _ _ _ h => h) rfl (Or.inl ⟨by rfl, ?_⟩) (by assumption) ?_
        rotate_left
        (focus ((intro w hSw; (try dsimp only at hSw); go_simp); try (with_reducible rfl)))
        try simp only [Act.put, List.setIfInBounds_toArray, List.set_cons_zero, List.set_cons_succ]
        refine take_d 11 (some 28) (v := ?_) rfl (by kernel_rfl) (by kernel_rfl) (by kernel_rfl) (fun _ _ _ h => h) rfl (Or.inl ⟨by rfl, ?_⟩) (by assumption) ?_
        rotate_left
        (focus ((intro w hSw; (try dsimp only at hSw); go_simp); try (with_reducible rfl)))
        try simp only [Act.put, List.setIfInBounds_toArray, List.set_cons_zero, List.set_cons_succ]
        refine take_d 12 (some 29) (v := undef) rfl (by kernel_rfl) (by kernel_rfl) (by kernel_rfl) (fun _ _ _ h => h) rfl (Or.inr ⟨by rfl, rfl⟩) (by assumption) ?_
        try simp only [Act.put, List.setIfInBounds_toArray, List.set_cons_zero, List.set_cons_succ]
        refine take_d 13 (some 30) (v := undef) rfl (by kernel_rfl) (by kernel_rfl) (by kernel_rfl) (fun _ _ _ h => h) rfl (Or.inr ⟨by rfl, rfl⟩) (by assumption) ?_
        try simp only [Act.put, List.setIfInBounds_toArray, List.set_cons_zero, List.set_cons_succ]
        refine take_d 14 (some 31) (v := ?_) rfl (by kernel_rfl) (by kernel_rfl) (by kernel_rfl) (fun _ _ _ h => h) rfl (Or.inl ⟨by rfl, ?_⟩) (by assumption) ?_
        rotate_left
        (focus ((intro w hSw; (try dsimp only at hSw); go_simp); try (with_reducible rfl)))
        try simp only [Act.put, List.setIfInBounds_toArray, List.set_cons_zero, List.set_cons_succ]
        refine take_d 15 (some 32) (v := ?_) rfl (by kernel_rfl) (by kernel_rfl) (by kernel_rfl) (fun _ _ _ h => h) rfl (Or.inl ⟨by rfl, ?_⟩) (by assumption) ?_
        rotate_left
        (focus ((intro w hSw; (try dsimp only at hSw); go_simp); try (with_reducible rfl)))
        try simp only [Act.put, List.setIfInBounds_toArray, List.set_cons_zero, List.set_cons_succ]
        refine take_d 16 (some 33) (v := undef) rfl (by kernel_rfl) (by kernel_rfl) (by kernel_rfl) (fun _ _ _ h => h) rfl (Or.inr ⟨by rfl, rfl⟩) (by assumption) ?_
        try simp only [Act.put, List.setIfInBounds_toArray, List.set_cons_zero, List.set_cons_succ]
        refine take_d 17 (some 34) (v := undef) rfl (by kernel_rfl) (by kernel_rfl) (by kernel_rfl) (fun _ _ _ h => h) rfl (Or.inr ⟨by rfl, rfl⟩) (by assumption) ?_
        try simp only [Act.put, List.setIfInBounds_toArray, List.set_cons_zero, List.set_cons_succ]
        refine take_d 18 (some 35) (v := undef) rfl (by kernel_rfl) (by kernel_rfl) (by kernel_rfl) (fun _ _ _ h => h) rfl (Or.inr ⟨by rfl, rfl⟩) (by assumption) ?_
        try simp only [Act.put, List.setIfInBounds_toArray, List.set_cons_zero, List.set_cons_succ]
        refine skip_g 19 (some 36) rfl (by kernel_rfl) rfl (by rfl) (by assumption) ?_
        try simp only [Act.put, List.setIfInBounds_toArray, List.set_cons_zero, List.set_cons_succ]
        refine take_d 20 (some 37) (v := undef) rfl (by kernel_rfl) (by kernel_rfl) (by kernel_rfl) (fun _ _ _ h => h) rfl (Or.inr ⟨by rfl, rfl⟩) (by assumption) ?_
        try simp only [Act.put, List.setIfInBounds_toArray, List.set_cons_zero, List.set_cons_succ]
        refine take_d 21 (some 38) (v := ?_) rfl (by kernel_rfl) (by kernel_rfl) (by kernel_rfl) (fun _ _ _ h => h) rfl (Or.inl ⟨by rfl, ?_⟩) (by assumption) ?_
        rotate_left
        (focus ((intro w hSw; (try dsimp only at hSw); go_simp); try (with_reducible rfl)))
        try simp only [Act.put, List.setIfInBounds_toArray, List.set_cons_zero, List.set_cons_succ]
        refine wpAnyH_done (by kernel_rfl) ?_ _
        all_goals (go_wp2_with fail; go_meet; exact ⟨by rw [HS.out]; rfl, hHeld.2.2.2.2⟩)
      · obtain ⟨⟨hW1, hW2⟩, _⟩ := (validB_iff W m r x).1 hv
        obtain ⟨Z, rfl⟩ := Int.eq_ofNat_of_zero_le (show 0 ≤ W by omega)
        have hpz : 2 ^ Z ≤ 65536 := Nat.le_trans (Nat.pow_le_pow_right (by omega) (show Z ≤ 16 by omega)) (by omega)
        have HSB : Hid (setB Z m r x s = inB s 0 (((2 ^ Z : Nat) : Int) - 1)) := Lib.hid (by unfold setB; rw [hv, Int.toNat_natCast]; rfl)
        have HV := Lib.hid hv
        clear hv
        by_cases hs0 : s < 0
        · have HS : Hid (setB Z m r x s = false) := Lib.hid (by rw [HSB.out]; exact inB_not (by omega))
          have hd0 : decide (s < 0) = true := by simpa using hs0
          clear hs0
          refine wp_region_held_drew (S := (fun w' => w'.cell? ⟨Bv, 0, none⟩ = some (.int .i64 Z) ∧ w'.cell? ⟨Bv, 1, none⟩ = some (.slice A m d) ∧ w'.cell? ⟨Bo, 0, none⟩ = some (.int .i64 W0) ∧ w'.cell? ⟨Bo, 1, none⟩ = some (.slice A0 n0 c0) ∧ Keeps w3 w')) (by kernel_rfl) (⟨v0, v1, o0, o1, Keeps.drew1 _⟩) (fun hHeld => ?_)
          refine take_d 0 (some 17) (v := ?_) rfl (by kernel_rfl) (by kernel_rfl) (by kernel_rfl) (fun _ _ _ h => h) rfl (Or.inl ⟨by rfl, ?_⟩) (by assumption) ?_
          rotate_left
          (focus ((intro w hSw; (try dsimp only at hSw); go_simp); try (with_reducible rfl)))
          try simp only [Act.put, List.setIfInBounds_toArray, List.set_cons_zero, List.set_cons_succ]
          refine take_d 1 (some 18) (v := ?_) rfl (by kernel_rfl) (by kernel_rfl) (by kernel_rfl) (fun _ _ _ h => h) rfl (Or.inl ⟨by rfl, ?_⟩) (by assumption) ?_
          rotate_left
          (focus ((intro w hSw; (try dsimp only at hSw); go_simp); try (with_reducible rfl)))
          try simp only [Act.put, List.setIfInBounds_toArray, List.set_cons_zero, List.set_cons_succ]
          refine take_d 2 (some 19) (v := ?_) rfl (by kernel_rfl) (by kernel_rfl) (by kernel_rfl) (fun _ _ _ h => h) rfl (Or.inl ⟨by rfl, ?_⟩) (by assumption) ?_
          rotate_left
          (focus ((intro w hSw; (try dsimp only at hSw); go_simp); try (with_reducible rfl)))
          try simp only [Act.put, List.setIfInBounds_toArray, List.set_cons_zero, List.set_cons_succ]
          refine call_d 3 (some 20) 17 #[.tmp 18, .tmp 19] #[25, 3] rfl (by kernel_rfl) rfl rfl rfl (fun _ _ => rfl) (by simp [Act.eval]) (HSP.out _ (hK13.step hHeld.2.2.2.2)) ?_
          rintro e w5 ⟨A5, c5, r5, rfl, hR5, hl5, hk5⟩
          refine ⟨_, rfl, ⟨cell_keeps hk5 hHeld.1, cell_keeps hk5 hHeld.2.1, cell_keeps hk5 hHeld.2.2.1, cell_keeps hk5 hHeld.2.2.2.1, hHeld.2.2.2.2.step hk5⟩, ?_⟩
          have hHeld2 : ((fun w' => w'.cell? ⟨Bv, 0, none⟩ = some (.int .i64 Z) ∧ w'.cell? ⟨Bv, 1, none⟩ = some (.slice A m d) ∧ w'.cell? ⟨Bo, 0, none⟩ = some (.int .i64 W0) ∧ w'.cell? ⟨Bo, 1, none⟩ = some (.slice A0 n0 c0) ∧ Keeps w3 w')) _ := ⟨cell_keeps hk5 hHeld.1, cell_keeps hk5 hHeld.2.1, cell_keeps hk5 hHeld.2.2.1, cell_keeps hk5 hHeld.2.2.2.1, hHeld.2.2.2.2.step hk5⟩
          clear hHeld
          have hHeld := hHeld2
          clear hHeld2
          try simp only [Act.put, List.setIfInBounds_toArray, List.set_cons_zero, List.set_cons_succ]
          refine call_d 4 (some 21) 28 #[.tmp 17, .tmp 20] #[25, 25] rfl (by kernel_rfl) rfl rfl rfl (fun _ _ => rfl) (by simp [Act.eval]) (eView_true A0 A5 n0 c0 c5 W0 r0 r5 x0 x0 _ hn0 (HR0.out.keeps hHeld.2.2.2.2) hR5 (fun i hi => by rw [HL0.out i hi]; omega) (fun i hi => ⟨by rw [HL0.out i hi, hl5 i hi], fun _ _ => rfl⟩)) ?_
          clear hR5 hl5 hk5
          rintro e w6 ⟨rfl, hk5⟩
          refine ⟨_, rfl, ⟨cell_keeps hk5 hHeld.1, cell_keeps hk5 hHeld.2.1, cell_keeps hk5 hHeld.2.2.1, cell_keeps hk5 hHeld.2.2.2.1, hHeld.2.2.2.2.step hk5⟩, ?_⟩
          have hHeld2 : ((fun w' => w'.cell? ⟨Bv, 0, none⟩ = some (.int .i64 Z) ∧ w'.cell? ⟨Bv, 1, none⟩ = some (.slice A m d) ∧ w'.cell? ⟨Bo, 0, none⟩ = some (.int .i64 W0) ∧ w'.cell? ⟨Bo, 1, none⟩ = some (.slice A0 n0 c0) ∧ Keeps w3 w')) _ := ⟨cell_keeps hk5 hHeld.1, cell_keeps hk5 hHeld.2.1, cell_keeps hk5 hHeld.2.2.1, cell_keeps hk5 hHeld.2.2.2.1, hHeld.2.2.2.2.step hk5⟩
          clear hHeld
          have hHeld := hHeld2
          clear hHeld2
          try simp only [Act.put, List.setIfInBounds_toArray, List.set_cons_zero, List.set_cons_succ]
          refine take_d 5 (some 22) (v := ?_) rfl (by kernel_rfl) (by kernel_rfl) (by kernel_rfl) (fun _ _ _ h => h) rfl (Or.inl ⟨by rfl, ?_⟩) (by assumption) ?_
          rotate_left
          (focus ((intro w hSw; (try dsimp only at hSw); go_simp); try (with_reducible rfl)))
          try simp only [Act.put, List.setIfInBounds_toArray, List.set_cons_zero, List.set_cons_succ]
          refine take_d 6 (some 23) (v := ?_) rfl (by kernel_rfl) (by kernel_rfl) (by kernel_rfl) (fun _ _ _ h => h) rfl (Or.inl ⟨by rfl, ?_⟩) (by assumption) ?_
          rotate_left
          (focus ((intro w hSw; (try dsimp only at hSw); go_simp); try (with_reducible rfl)))
          try simp only [Act.put, List.setIfInBounds_toArray, List.set_cons_zero, List.set_cons_succ]
          refine take_d 7 (some 24) (v := ?_) rfl (by kernel_rfl) (by kernel_rfl) (by kernel_rfl) (fun _ _ _ h => h) rfl (Or.inl ⟨by rfl, ?_⟩) (by assumption) ?_
          rotate_left
          (focus ((intro w hSw; (try dsimp only at hSw); go_simp); try (with_reducible rfl)))
          try simp only [Act.put, List.setIfInBounds_toArray, List.set_cons_zero, List.set_cons_succ]
          refine call_g 8 (some 25) 29 #[.tmp 24] #[25] rfl (by kernel_rfl) rfl (by rfl) rfl (fun _ _ => rfl) (by simp [Act.eval]) (validView_any A m d r x Z _ (by omega) (HR3.out.keeps hHeld.2.2.2.2) HLEN.out) ?_
          clear hk5
          rintro e w7 ⟨rfl, hk5⟩
          rw [HV.out]
          refine ⟨_, rfl, ⟨cell_keeps hk5 hHeld.1, cell_keeps hk5 hHeld.2.1, cell_keeps hk5 hHeld.2.2.1, cell_keeps hk5 hHeld.2.2.2.1, hHeld.2.2.2.2.step hk5⟩, ?_⟩
          have hHeld2 : ((fun w' => w'.cell? ⟨Bv, 0, none⟩ = some (.int .i64 Z) ∧ w'.cell? ⟨Bv, 1, none⟩ = some (.slice A m d) ∧ w'.cell? ⟨Bo, 0, none⟩ = some (.int .i64 W0) ∧ w'.cell? ⟨Bo, 1, none⟩ = some (.slice A0 n0 c0) ∧ Keeps w3 w')) _ := ⟨cell_keeps hk5 hHeld.1, cell_keeps hk5 hHeld.2.1, cell_keeps hk5 hHeld.2.2.1, cell_keeps hk5 hHeld.2.2.2.1, hHeld.2.2.2.2.step hk5⟩
          clear hHeld
          have hHeld := hHeld2
          clear hHeld2
          try simp only [Act.put, List.setIfInBounds_toArray, List.set_cons_zero, List.set_cons_succ]
          refine take_d 9 (some 26) (v := ?_) rfl (by kernel_rfl) (by kernel_rfl) (by kernel_rfl) (fun _ _ _ h => h) rfl (Or.inl ⟨by rfl, ?_⟩) (by assumption) ?_
          rotate_left
          (focus ((intro w hSw; (try dsimp only at hSw); go_simp); try (with_reducible rfl)))
          try simp only [Act.put, List.setIfInBounds_toArray, List.set_cons_zero, List.set_cons_succ]
          refine take_d 10 (some 27) (v := ?_) rfl (by kernel_rfl) (by kernel_rfl) (by kernel_rfl) (fun _ _ _ h => h) rfl (Or.inl ⟨by rfl, ?_⟩) (by assumption) ?_
          rotate_left
          (focus ((intro w hSw; (try dsimp only at hSw); go_simp); try (with_reducible rfl)))
          try simp only [Act.put, List.setIfInBounds_toArray, List.set_cons_zero, List.set_cons_succ]
          refine take_d 11 (some 28) (v := ?_) rfl (by kernel_rfl) (by kernel_rfl) (by kernel_rfl) (fun _ _ _ h => h) rfl (Or.inl ⟨by rfl, ?_⟩) (by assumption) ?_
          rotate_left
          (focus ((intro w hSw; (try dsimp only at hSw); go_simp); try (with_reducible rfl)))
          try simp only [Act.put, List.setIfInBounds_toArray, List.set_cons_zero, List.set_cons_succ]
          refine take_d 12 (some 29) (v := ?_) rfl (by kernel_rfl) (by kernel_rfl) (by kernel_rfl) (fun _ _ _ h => h) rfl (Or.inl ⟨by rfl, ?_⟩) (by assumption) ?_
          rotate_left
          (focus ((intro w hSw; (try dsimp only at hSw); go_simp); try (with_reducible rfl)))
          try simp only [Act.put, List.setIfInBounds_toArray, List.set_cons_zero, List.set_cons_succ]
          refine take_d 13 (some 30) (v := .bool true) rfl (by kernel_rfl) (by kernel_rfl) (by kernel_rfl) (fun _ _ _ h => h) rfl (Or.inl ⟨by rfl, ?_⟩) (by assumption) ?_
          (focus ((intro w hSw; clear hSw; go_simp; try simp [hd0])))
          try simp only [Act.put, List.setIfInBounds_toArray, List.set_cons_zero, List.set_cons_succ]
          refine take_d 14 (some 31) (v := ?_) rfl (by kernel_rfl) (by kernel_rfl) (by kernel_rfl) (fun _ _ _ h => h) rfl (Or.inl ⟨by rfl, ?_⟩) (by assumption) ?_
          rotate_left
          (focus ((intro w hSw; (try dsimp only at hSw); go_simp); try (with_reducible rfl)))
          try simp only [Act.put, List.setIfInBounds_toArray, List.set_cons_zero, List.set_cons_succ]
          refine take_d 15 (some 32) (v := ?_) rfl (by kernel_rfl) (by kernel_rfl) (by kernel_rfl) (fun _ _ _ h => h) rfl (Or.inl ⟨by rfl, ?_⟩) (by assumption) ?_
          rotate_left
          (focus ((intro w hSw; (try dsimp only at hSw); go_simp); try (with_reducible rfl)))
          try simp only [Act.put, List.setIfInBounds_toArray, List.set_cons_zero, List.set_cons_succ]
          refine take_d 16 (some 33) (v := undef) rfl (by kernel_rfl) (by kernel_rfl) (by kernel_rfl) (fun _ _ _ h => h) rfl (Or.inr ⟨by rfl, rfl⟩) (by assumption) ?_
          try simp only [Act.put, List.setIfInBounds_toArray, List.set_cons_zero, List.set_cons_succ]
          refine take_d 17 (some 34) (v := undef) rfl (by kernel_rfl) (by kernel_rfl) (by kernel_rfl) (fun _ _ _ h => h) rfl (Or.inr ⟨by rfl, rfl⟩) (by assumption) ?_
          try simp only [Act.put, List.setIfInBounds_toArray, List.set_cons_zero, List.set_cons_succ]
          refine take_d 18 (some 35) (v := undef) rfl (by kernel_rfl) (by kernel_rfl) (by kernel_rfl) (fun _ _ _ h => h) rfl (Or.inr ⟨by rfl, rfl⟩) (by assumption) ?_
          try simp only [Act.put, List.setIfInBounds_toArray, List.set_cons_zero, List.set_cons_succ]
          refine skip_g 19 (some 36) rfl (by kernel_rfl) rfl (by rfl) (by assumption) ?_
          try simp only [Act.put, List.setIfInBounds_toArray, List.set_cons_zero, List.set_cons_succ]
          refine take_d 20 (some 37) (v := undef) rfl (by kernel_rfl) (by kernel_rfl) (by kernel_rfl) (fun _ _ _ h => h) rfl (Or.inr ⟨by rfl, rfl⟩) (by assumption) ?_
          try simp only [Act.put, List.setIfInBounds_toArray, List.set_cons_zero, List.set_cons_succ]
          refine take_d 21 (some 38) (v := ?_) rfl (by kernel_rfl) (by kernel_rfl) (by kernel_rfl) (fun _ _ _ h => h) rfl (Or.inl ⟨by rfl, ?_⟩) (by assumption) ?_
          rotate_left
          (focus ((intro w hSw; (try dsimp only at hSw); go_simp); try (with_reducible rfl)))
          try simp only [Act.put, List.setIfInBounds_toArray, List.set_cons_zero, List.set_cons_succ]
          refine wpAnyH_done (by kernel_rfl) ?_ _
          all_goals (go_wp2_with fail; go_meet; exact ⟨by rw [HS.out]; rfl, hHeld.2.2.2.2⟩)
        · have hd0 : decide (s < 0) = false := by simpa using hs0
          by_cases hs1 : ((2 ^ Z : Nat) : Int) ≤ s
          · have HS : Hid (setB Z m r x s = false) := Lib.hid (by rw [HSB.out]; exact inB_not (by omega))
            generalize hP : 2 ^ Z = P at *
            have HP := Lib.hid hP
            clear hP hs0
            refine wp_region_held_drew (S := (fun w' => w'.cell? ⟨Bv, 0, none⟩ = some (.int .i64 Z) ∧ w'.cell? ⟨Bv, 1, none⟩ = some (.slice A m d) ∧ w'.cell? ⟨Bo, 0, none⟩ = some (.int .i64 W0) ∧ w'.cell? ⟨Bo, 1, none⟩ = some (.slice A0 n0 c0) ∧ Keeps w3 w')) (by kernel_rfl) (⟨v0, v1, o0, o1, Keeps.drew1 _⟩) (fun hHeld => ?_)
            refine take_d 0 (some 17) (v := ?_) rfl (by kernel_rfl) (by kernel_rfl) (by kernel_rfl) (fun _ _ _ h => h) rfl (Or.inl ⟨by rfl, ?_⟩) (by assumption) ?_
            rotate_left
            (focus ((intro w hSw; (try dsimp only at hSw); go_simp); try (with_reducible rfl)))
            try simp only [Act.put, List.setIfInBounds_toArray, List.set_cons_zero, List.set_cons_succ]
            refine take_d 1 (some 18) (v := ?_) rfl (by kernel_rfl) (by kernel_rfl) (by kernel_rfl) (fun _ _ _ h => h) rfl (Or.inl ⟨by rfl, ?_⟩) (by assumption) ?_
            rotate_left
            (focus ((intro w hSw; (try dsimp only at hSw); go_simp); try (with_reducible rfl)))
            try simp only [Act.put, List.setIfInBounds_toArray, List.set_cons_zero, List.set_cons_succ]
            refine take_d 2 (some 19) (v := ?_) rfl (by kernel_rfl) (by kernel_rfl) (by kernel_rfl) (fun _ _ _ h => h) rfl (Or.inl ⟨by rfl, ?_⟩) (by assumption) ?_
            rotate_left
            (focus ((intro w hSw; (try dsimp only at hSw); go_simp); try (with_reducible rfl)))
            try simp only [Act.put, List.setIfInBounds_toArray, List.set_cons_zero, List.set_cons_succ]
            refine call_d 3 (some 20) 17 #[.tmp 18, .tmp 19] #[25, 3] rfl (by kernel_rfl) rfl rfl rfl (fun _ _ => rfl) (by simp [Act.eval]) (HSP.out _ (hK13.step hHeld.2.2.2.2)) ?_
            rintro e w5 ⟨A5, c5, r5, rfl, hR5, hl5, hk5⟩
            refine ⟨_, rfl, ⟨cell_keeps hk5 hHeld.1, cell_keeps hk5 hHeld.2.1, cell_keeps hk5 hHeld.2.2.1, cell_keeps hk5 hHeld.2.2.2.1, hHeld.2.2.2.2.step hk5⟩, ?_⟩
            have hHeld2 : ((fun w' => w'.cell? ⟨Bv, 0, none⟩ = some (.int .i64 Z) ∧ w'.cell? ⟨Bv, 1, none⟩ = some (.slice A m d) ∧ w'.cell? ⟨Bo, 0, none⟩ = some (.int .i64 W0) ∧ w'.cell? ⟨Bo, 1, none⟩ = some (.slice A0 n0 c0) ∧ Keeps w3 w')) _ := ⟨cell_keeps hk5 hHeld.1, cell_keeps hk5 hHeld.2.1, cell_keeps hk5 hHeld.2.2.1, cell_keeps hk5 hHeld.2.2.2.1, hHeld.2.2.2.2.step hk5⟩
            clear hHeld
            have hHeld := hHeld2
            clear hHeld2
            try simp only [Act.put, List.setIfInBounds_toArray, List.set_cons_zero, List.set_cons_succ]
            refine call_d 4 (some 21) 28 #[.tmp 17, .tmp 20] #[25, 25] rfl (by kernel_rfl) rfl rfl rfl (fun _ _ => rfl) (by simp [Act.eval]) (eView_true A0 A5 n0 c0 c5 W0 r0 r5 x0 x0 _ hn0 (HR0.out.keeps hHeld.2.2.2.2) hR5 (fun i hi => by rw [HL0.out i hi]; omega) (fun i hi => ⟨by rw [HL0.out i hi, hl5 i hi], fun _ _ => rfl⟩)) ?_
            clear hR5 hl5 hk5
            rintro e w6 ⟨rfl, hk5⟩
            refine ⟨_, rfl, ⟨cell_keeps hk5 hHeld.1, cell_keeps hk5 hHeld.2.1, cell_keeps hk5 hHeld.2.2.1, cell_keeps hk5 hHeld.2.2.2.1, hHeld.2.2.2.2.step hk5⟩, ?_⟩
            have hHeld2 : ((fun w' => w'.cell? ⟨Bv, 0, none⟩ = some (.int .i64 Z) ∧ w'.cell? ⟨Bv, 1, none⟩ = some (.slice A m d) ∧ w'.cell? ⟨Bo, 0, none⟩ = some (.int .i64 W0) ∧ w'.cell? ⟨Bo, 1, none⟩ = some (.slice A0 n0 c0) ∧ Keeps w3 w')) _ := ⟨cell_keeps hk5 hHeld.1, cell_keeps hk5 hHeld.2.1, cell_keeps hk5 hHeld.2.2.1, cell_keeps hk5 hHeld.2.2.2.1, hHeld.2.2.2.2.step hk5⟩
            clear hHeld
            have hHeld := hHeld2
            clear hHeld2
            try simp only [Act.put, List.setIfInBounds_toArray, List.set_cons_zero, List.set_cons_succ]
            refine take_d 5 (some 22) (v := ?_) rfl (by kernel_rfl) (by kernel_rfl) (by kernel_rfl) (fun _ _ _ h => h) rfl (Or.inl ⟨by rfl, ?_⟩) (by assumption) ?_
            rotate_left
            (focus ((intro w hSw; (try dsimp only at hSw); go_simp); try (with_reducible rfl)))
            try simp only [Act.put, List.setIfInBounds_toArray, List.set_cons_zero, List.set_cons_succ]
            refine take_d 6 (some 23) (v := ?_) rfl (by kernel_rfl) (by kernel_rfl) (by kernel_rfl) (fun _ _ _ h => h) rfl (Or.inl ⟨by rfl, ?_⟩) (by assumption) ?_
            rotate_left
            (focus ((intro w hSw; (try dsimp only at hSw); go_simp); try (with_reducible rfl)))
            try simp only [Act.put, List.setIfInBounds_toArray, List.set_cons_zero, List.set_cons_succ]
            refine take_d 7 (some 24) (v := ?_) rfl (by kernel_rfl) (by kernel_rfl) (by kernel_rfl) (fun _ _ _ h => h) rfl (Or.inl ⟨by rfl, ?_⟩) (by assumption) ?_
            rotate_left
            (focus ((intro w hSw; (try dsimp only at hSw); go_simp); try (with_reducible rfl)))
            try simp only [Act.put, List.setIfInBounds_toArray, List.set_cons_zero, List.set_cons_succ]
            refine call_g 8 (some 25) 29 #[.tmp 24] #[25] rfl (by kernel_rfl) rfl (by rfl) rfl (fun _ _ => rfl) (by simp [Act.eval]) (validView_any A m d r x Z _ (by omega) (HR3.out.keeps hHeld.2.2.2.2) HLEN.out) ?_
            clear hk5
            rintro e w7 ⟨rfl, hk5⟩
            rw [HV.out]
            refine ⟨_, rfl, ⟨cell_keeps hk5 hHeld.1, cell_keeps hk5 hHeld.2.1, cell_keeps hk5 hHeld.2.2.1, cell_keeps hk5 hHeld.2.2.2.1, hHeld.2.2.2.2.step hk5⟩, ?_⟩
            have hHeld2 : ((fun w' => w'.cell? ⟨Bv, 0, none⟩ = some (.int .i64 Z) ∧ w'.cell? ⟨Bv, 1, none⟩ = some (.slice A m d) ∧ w'.cell? ⟨Bo, 0, none⟩ = some (.int .i64 W0) ∧ w'.cell? ⟨Bo, 1, none⟩ = some (.slice A0 n0 c0) ∧ Keeps w3 w')) _ := ⟨cell_keeps hk5 hHeld.1, cell_keeps hk5 hHeld.2.1, cell_keeps hk5 hHeld.2.2.1, cell_keeps hk5 hHeld.2.2.2.1, hHeld.2.2.2.2.step hk5⟩
            clear hHeld
            have hHeld := hHeld2
            clear hHeld2
            try simp only [Act.put, List.setIfInBounds_toArray, List.set_cons_zero, List.set_cons_succ]
            refine take_d 9 (some 26) (v := ?_) rfl (by kernel_rfl) (by kernel_rfl) (by kernel_rfl) (fun _ _ _ h => h) rfl (Or.inl ⟨by rfl, ?_⟩) (by assumption) ?_
            rotate_left
            (focus ((intro w hSw; (try dsimp only at hSw); go_simp); try (with_reducible rfl)))
            try simp only [Act.put, List.setIfInBounds_toArray, List.set_cons_zero, List.set_cons_succ]
            refine take_d 10 (some 27) (v := ?_) rfl (by kernel_rfl) (by kernel_rfl) (by kernel_rfl) (fun _ _ _ h => h) rfl (Or.inl ⟨by rfl, ?_⟩) (by assumption) ?_
            rotate_left
            (focus ((intro w hSw; (try dsimp only at hSw); go_simp); try (with_reducible rfl)))
            try simp only [Act.put, List.setIfInBounds_toArray, List.set_cons_zero, List.set_cons_succ]
            refine take_d 11 (some 28) (v := ?_) rfl (by kernel_rfl) (by kernel_rfl) (by kernel_rfl) (fun _ _ _ h => h) rfl (Or.inl ⟨by rfl, ?_⟩) (by assumption) ?_
            rotate_left
            (focus ((intro w hSw; (try dsimp only at hSw); go_simp); try (with_reducible rfl)))
            try simp only [Act.put, List.setIfInBounds_toArray, List.set_cons_zero, List.set_cons_succ]
            refine take_d 12 (some 29) (v := ?_) rfl (by kernel_rfl) (by kernel_rfl) (by kernel_rfl) (fun _ _ _ h => h) rfl (Or.inl ⟨by rfl, ?_⟩) (by assumption) ?_
            rotate_left
            (focus ((intro w hSw; (try dsimp only at hSw); go_simp); try (with_reducible rfl)))
            try simp only [Act.put, List.setIfInBounds_toArray, List.set_cons_zero, List.set_cons_succ]
            refine take_d 13 (some 30) (v := .bool false) rfl (by kernel_rfl) (by kernel_rfl) (by kernel_rfl) (fun _ _ _ h => h) rfl (Or.inl ⟨by rfl, ?_⟩) (by assumption) ?_
            (focus ((intro w hSw; clear hSw; go_simp; try simp [hd0])))
            try simp only [Act.put, List.setIfInBounds_toArray, List.set_cons_zero, List.set_cons_succ]
            refine take_d 14 (some 31) (v := ?_) rfl (by kernel_rfl) (by kernel_rfl) (by kernel_rfl) (fun _ _ _ h => h) rfl (Or.inl ⟨by rfl, ?_⟩) (by assumption) ?_
            rotate_left
            (focus ((intro w hSw; (try dsimp only at hSw); go_simp); try (with_reducible rfl)))
            try simp only [Act.put, List.setIfInBounds_toArray, List.set_cons_zero, List.set_cons_succ]
            refine take_d 15 (some 32) (v := ?_) rfl (by kernel_rfl) (by kernel_rfl) (by kernel_rfl) (fun _ _ _ h => h) rfl (Or.inl ⟨by rfl, ?_⟩) (by assumption) ?_
            rotate_left
            (focus ((intro w hSw; (try dsimp only at hSw); go_simp); try (with_reducible rfl)))
            try simp only [Act.put, List.setIfInBounds_toArray, List.set_cons_zero, List.set_cons_succ]
            refine take_d 16 (some 33) (v := ?_) rfl (by kernel_rfl) (by kernel_rfl) (by kernel_rfl) (fun _ _ _ h => h) rfl (Or.inl ⟨by rfl, ?_⟩) (by assumption) ?_
            rotate_left
            (focus ((intro w hSw; (try dsimp only at hSw); go_simp); try (with_reducible rfl)))
            try simp only [Act.put, List.setIfInBounds_toArray, List.set_cons_zero, List.set_cons_succ]
            refine take_d 17 (some 34) (v := ?_) rfl (by kernel_rfl) (by kernel_rfl) (by kernel_rfl) (fun _ _ _ h => h) rfl (Or.inl ⟨by rfl, ?_⟩) (by assumption) ?_
            rotate_left
            (focus ((intro w hSw; (try dsimp only at hSw); go_simp); try (with_reducible rfl)))
            try simp only [Act.put, List.setIfInBounds_toArray, List.set_cons_zero, List.set_cons_succ]
            refine take_d 18 (some 35) (v := ?_) rfl (by kernel_rfl) (by kernel_rfl) (by kernel_rfl) (fun _ _ _ h => h) rfl (Or.inl ⟨by rfl, ?_⟩) (by assumption) ?_
            rotate_left
            (focus ((intro w hSw; (try dsimp only at hSw); go_simp); try (with_reducible rfl)))
            try simp only [Act.put, List.setIfInBounds_toArray, List.set_cons_zero, List.set_cons_succ]
            refine call_g 19 (some 36) 11 #[.tmp 35] #[3] rfl (by kernel_rfl) rfl (by rfl) rfl (fun _ _ => rfl) (by simp [Act.eval]) (lpower_any Z _ (by omega)) ?_
            clear hk5
            rintro e w8 ⟨rfl, rfl⟩
            have hk5 := Keeps.refl w7
            rw [HP.out]
            refine ⟨_, rfl, ⟨cell_keeps hk5 hHeld.1, cell_keeps hk5 hHeld.2.1, cell_keeps hk5 hHeld.2.2.1, cell_keeps hk5 hHeld.2.2.2.1, hHeld.2.2.2.2.step hk5⟩, ?_⟩
            have hHeld2 : ((fun w' => w'.cell? ⟨Bv, 0, none⟩ = some (.int .i64 Z) ∧ w'.cell? ⟨Bv, 1, none⟩ = some (.slice A m d) ∧ w'.cell? ⟨Bo, 0, none⟩ = some (.int .i64 W0) ∧ w'.cell? ⟨Bo, 1, none⟩ = some (.slice A0 n0 c0) ∧ Keeps w3 w')) _ := ⟨cell_keeps hk5 hHeld.1, cell_keeps hk5 hHeld.2.1, cell_keeps hk5 hHeld.2.2.1, cell_keeps hk5 hHeld.2.2.2.1, hHeld.2.2.2.2.step hk5⟩
            clear hHeld
            have hHeld := hHeld2
            clear hHeld2
            try simp only [Act.put, List.setIfInBounds_toArray, List.set_cons_zero, List.set_cons_succ]
            refine take_d 20 (some 37) (v := ?_) rfl (by kernel_rfl) (by kernel_rfl) (by kernel_rfl) (fun _ _ _ h => h) rfl (Or.inl ⟨by rfl, ?_⟩) (by assumption) ?_
            rotate_left
            (focus ((intro w hSw; (try dsimp only at hSw); go_simp); try (with_reducible rfl)))
            try simp only [Act.put, List.setIfInBounds_toArray, List.set_cons_zero, List.set_cons_succ]
            refine take_d 21 (some 38) (v := ?_) rfl (by kernel_rfl) (by kernel_rfl) (by kernel_rfl) (fun _ _ _ h => h) rfl (Or.inl ⟨by rfl, ?_⟩) (by assumption) ?_
            rotate_left
            (focus ((intro w hSw; (try dsimp only at hSw); go_simp); try (with_reducible rfl)))
            try simp only [Act.put, List.setIfInBounds_toArray, List.set_cons_zero, List.set_cons_succ]
            refine wpAnyH_done (by kernel_rfl) ?_ _
            go_wp2_with fail
            go_meet
            exact ⟨by rw [HS.out]; rfl, hHeld.2.2.2.2⟩
          · have HS : Hid (setB Z m r x s = true) := Lib.hid (by rw [HSB.out]; exact inB_mk (by omega) (by omega))
            generalize hP : 2 ^ Z = P at *
            have HP := Lib.hid hP
            have hs2 : ¬ (P : Int) ≤ s := hs1
            clear hP hs0
            refine wp_region_held_drew (S := (fun w' => w'.cell? ⟨Bv, 0, none⟩ = some (.int .i64 Z) ∧ w'.cell? ⟨Bv, 1, none⟩ = some (.slice A m d) ∧ w'.cell? ⟨Bo, 0, none⟩ = some (.int .i64 W0) ∧ w'.cell? ⟨Bo, 1, none⟩ = some (.slice A0 n0 c0) ∧ Keeps w3 w')) (by kernel_rfl) (⟨v0, v1, o0, o1, Keeps.drew1 _⟩) (fun hHeld => ?_)
            refine take_d 0 (some 17) (v := ?_) rfl (by kernel_rfl) (by kernel_rfl) (by kernel_rfl) (fun _ _ _ h => h) rfl (Or.inl ⟨by rfl, ?_⟩) (by assumption) ?_
            rotate_left
            (focus ((intro w hSw; (try dsimp only at hSw); go_simp); try (with_reducible rfl)))
            try simp only [Act.put, List.setIfInBounds_toArray, List.set_cons_zero, List.set_cons_succ]
            refine take_d 1 (some 18) (v := ?_) rfl (by kernel_rfl) (by kernel_rfl) (by kernel_rfl) (fun _ _ _ h => h) rfl (Or.inl ⟨by rfl, ?_⟩) (by assumption) ?_
            rotate_left
            (focus ((intro w hSw; (try dsimp only at hSw); go_simp); try (with_reducible rfl)))
            try simp only [Act.put, List.setIfInBounds_toArray, List.set_cons_zero, List.set_cons_succ]
            refine take_d 2 (some 19) (v := ?_) rfl (by kernel_rfl) (by kernel_rfl) (by kernel_rfl) (fun _ _ _ h => h) rfl (Or.inl ⟨by rfl, ?_⟩) (by assumption) ?_
            rotate_left
            (focus ((intro w hSw; (try dsimp only at hSw); go_simp); try (with_reducible rfl)))
            try simp only [Act.put, List.setIfInBounds_toArray, List.set_cons_zero, List.set_cons_succ]
            refine call_d 3 (some 20) 17 #[.tmp 18, .tmp 19] #[25, 3] rfl (by kernel_rfl) rfl rfl rfl (fun _ _ => rfl) (by simp [Act.eval]) (HSP.out _ (hK13.step hHeld.2.2.2.2)) ?_
            rintro e w5 ⟨A5, c5, r5, rfl, hR5, hl5, hk5⟩
            refine ⟨_, rfl, ⟨cell_keeps hk5 hHeld.1, cell_keeps hk5 hHeld.2.1, cell_keeps hk5 hHeld.2.2.1, cell_keeps hk5 hHeld.2.2.2.1, hHeld.2.2.2.2.step hk5⟩, ?_⟩
            have hHeld2 : ((fun w' => w'.cell? ⟨Bv, 0, none⟩ = some (.int .i64 Z) ∧ w'.cell? ⟨Bv, 1, none⟩ = some (.slice A m d) ∧ w'.cell? ⟨Bo, 0, none⟩ = some (.int .i64 W0) ∧ w'.cell? ⟨Bo, 1, none⟩ = some (.slice A0 n0 c0) ∧ Keeps w3 w')) _ := ⟨cell_keeps hk5 hHeld.1, cell_keeps hk5 hHeld.2.1, cell_keeps hk5 hHeld.2.2.1, cell_keeps hk5 hHeld.2.2.2.1, hHeld.2.2.2.2.step hk5⟩
            clear hHeld
            have hHeld := hHeld2
            clear hHeld2
            try simp only [Act.put, List.setIfInBounds_toArray, List.set_cons_zero, List.set_cons_succ]
            refine call_d 4 (some 21) 28 #[.tmp 17, .tmp 20] #[25, 25] rfl (by kernel_rfl) rfl rfl rfl (fun _ _ => rfl) (by simp [Act.eval]) (eView_true A0 A5 n0 c0 c5 W0 r0 r5 x0 x0 _ hn0 (HR0.out.keeps hHeld.2.2.2.2) hR5 (fun i hi => by rw [HL0.out i hi]; omega) (fun i hi => ⟨by rw [HL0.out i hi, hl5 i hi], fun _ _ => rfl⟩)) ?_
            clear hR5 hl5 hk5
            rintro e w6 ⟨rfl, hk5⟩
            refine ⟨_, rfl, ⟨cell_keeps hk5 hHeld.1, cell_keeps hk5 hHeld.2.1, cell_keeps hk5 hHeld.2.2.1, cell_keeps hk5 hHeld.2.2.2.1, hHeld.2.2.2.2.step hk5⟩, ?_⟩
            have hHeld2 : ((fun w' => w'.cell? ⟨Bv, 0, none⟩ = some (.int .i64 Z) ∧ w'.cell? ⟨Bv, 1, none⟩ = some (.slice A m d) ∧ w'.cell? ⟨Bo, 0, none⟩ = some (.int .i64 W0) ∧ w'.cell? ⟨Bo, 1, none⟩ = some (.slice A0 n0 c0) ∧ Keeps w3 w')) _ := ⟨cell_keeps hk5 hHeld.1, cell_keeps hk5 hHeld.2.1, cell_keeps hk5 hHeld.2.2.1, cell_keeps hk5 hHeld.2.2.2.1, hHeld.2.2.2.2.step hk5⟩
            clear hHeld
            have hHeld := hHeld2
            clear hHeld2
            try simp only [Act.put, List.setIfInBounds_toArray, List.set_cons_zero, List.set_cons_succ]
            refine take_d 5 (some 22) (v := ?_) rfl (by kernel_rfl) (by kernel_rfl) (by kernel_rfl) (fun _ _ _ h => h) rfl (Or.inl ⟨by rfl, ?_⟩) (by assumption) ?_
            rotate_left
            (focus ((intro w hSw; (try dsimp only at hSw); go_simp); try (with_reducible rfl)))
            try simp only [Act.put, List.setIfInBounds_toArray, List.set_cons_zero, List.set_cons_succ]
            refine take_d 6 (some 23) (v := ?_) rfl (by kernel_rfl) (by kernel_rfl) (by kernel_rfl) (fun _ _ _ h => h) rfl (Or.inl ⟨by rfl, ?_⟩) (by assumption) ?_
            rotate_left
            (focus ((intro w hSw; (try dsimp only at hSw); go_simp); try (with_reducible rfl)))
            try simp only [Act.put, List.setIfInBounds_toArray, List.set_cons_zero, List.set_cons_succ]
            refine take_d 7 (some 24) (v := ?_) rfl (by kernel_rfl) (by kernel_rfl) (by kernel_rfl) (fun _ _ _ h => h) rfl (Or.inl ⟨by rfl, ?_⟩) (by assumption) ?_
            rotate_left
            (focus ((intro w hSw; (try dsimp only at hSw); go_simp); try (with_reducible rfl)))
            try simp only [Act.put, List.setIfInBounds_toArray, List.set_cons_zero, List.set_cons_succ]
            refine call_g 8 (some 25) 29 #[.tmp 24] #[25] rfl (by kernel_rfl) rfl (by rfl) rfl (fun _ _ => rfl) (by simp [Act.eval]) (validView_any A m d r x Z _ (by omega) (HR3.out.keeps hHeld.2.2.2.2) HLEN.out) ?_
            clear hk5
            rintro e w7 ⟨rfl, hk5⟩
            rw [HV.out]
            refine ⟨_, rfl, ⟨cell_keeps hk5 hHeld.1, cell_keeps hk5 hHeld.2.1, cell_keeps hk5 hHeld.2.2.1, cell_keeps hk5 hHeld.2.2.2.1, hHeld.2.2.2.2.step hk5⟩, ?_⟩
            have hHeld2 : ((fun w' => w'.cell? ⟨Bv, 0, none⟩ = some (.int .i64 Z) ∧ w'.cell? ⟨Bv, 1, none⟩ = some (.slice A m d) ∧ w'.cell? ⟨Bo, 0, none⟩ = some (.int .i64 W0) ∧ w'.cell? ⟨Bo, 1, none⟩ = some (.slice A0 n0 c0) ∧ Keeps w3 w')) _ := ⟨cell_keeps hk5 hHeld.1, cell_keeps hk5 hHeld.2.1, cell_keeps hk5 hHeld.2.2.1, cell_keeps hk5 hHeld.2.2.2.1, hHeld.2.2.2.2.step hk5⟩
            clear hHeld
            have hHeld := hHeld2
            clear hHeld2
            try simp only [Act.put, List.setIfInBounds_toArray, List.set_cons_zero, List.set_cons_succ]
            refine take_d 9 (some 26) (v := ?_) rfl (by kernel_rfl) (by kernel_rfl) (by kernel_rfl) (fun _ _ _ h => h) rfl (Or.inl ⟨by rfl, ?_⟩) (by assumption) ?_
            rotate_left
            (focus ((intro w hSw; (try dsimp only at hSw); go_simp); try (with_reducible rfl)))
            try simp only [Act.put, List.setIfInBounds_toArray, List.set_cons_zero, List.set_cons_succ]
            refine take_d 10 (some 27) (v := ?_) rfl (by kernel_rfl) (by kernel_rfl) (by kernel_rfl) (fun _ _ _ h => h) rfl (Or.inl ⟨by rfl, ?_⟩) (by assumption) ?_
            rotate_left
            (focus ((intro w hSw; (try dsimp only at hSw); go_simp); try (with_reducible rfl)))
            try simp only [Act.put, List.setIfInBounds_toArray, List.set_cons_zero, List.set_cons_succ]
            refine take_d 11 (some 28) (v := ?_) rfl (by kernel_rfl) (by kernel_rfl) (by kernel_rfl) (fun _ _ _ h => h) rfl (Or.inl ⟨by rfl, ?_⟩) (by assumption) ?_
            rotate_left
            (focus ((intro w hSw; (try dsimp only at hSw); go_simp); try (with_reducible rfl)))
            try simp only [Act.put, List.setIfInBounds_toArray, List.set_cons_zero, List.set_cons_succ]
            refine take_d 12 (some 29) (v := ?_) rfl (by kernel_rfl) (by kernel_rfl) (by kernel_rfl) (fun _ _ _ h => h) rfl (Or.inl ⟨by rfl, ?_⟩) (by assumption) ?_
            rotate_left
            (focus ((intro w hSw; (try dsimp only at hSw); go_simp); try (with_reducible rfl)))
            try simp only [Act.put, List.setIfInBounds_toArray, List.set_cons_zero, List.set_cons_succ]
            refine take_d 13 (some 30) (v := .bool false) rfl (by kernel_rfl) (by kernel_rfl) (by kernel_rfl) (fun _ _ _ h => h) rfl (Or.inl ⟨by rfl, ?_⟩) (by assumption) ?_
            (focus ((intro w hSw; clear hSw; go_simp; try simp [hd0])))
            try simp only [Act.put, List.setIfInBounds_toArray, List.set_cons_zero, List.set_cons_succ]
            refine take_d 14 (some 31) (v := ?_) rfl (by kernel_rfl) (by kernel_rfl) (by kernel_rfl) (fun _ _ _ h => h) rfl (Or.inl ⟨by rfl, ?_⟩) (by assumption) ?_
            rotate_left
            (focus ((intro w hSw; (try dsimp only at hSw); go_simp); try (with_reducible rfl)))
            try simp only [Act.put, List.setIfInBounds_toArray, List.set_cons_zero, List.set_cons_succ]
            refine take_d 15 (some 32) (v := ?_) rfl (by kernel_rfl) (by kernel_rfl) (by kernel_rfl) (fun _ _ _ h => h) rfl (Or.inl ⟨by rfl, ?_⟩) (by assumption) ?_
            rotate_left
            (focus ((intro w hSw; (try dsimp only at hSw); go_simp); try (with_reducible rfl)))
            try simp only [Act.put, List.setIfInBounds_toArray, List.set_cons_zero, List.set_cons_succ]
            refine take_d 16 (some 33) (v := ?_) rfl (by kernel_rfl) (by kernel_rfl) (by kernel_rfl) (fun _ _ _ h => h) rfl (Or.inl ⟨by rfl, ?_⟩) (by assumption) ?_
            rotate_left
            (focus ((intro w hSw; (try dsimp only at hSw); go_simp); try (with_reducible rfl)))
            try simp only [Act.put, List.setIfInBounds_toArray, List.set_cons_zero, List.set_cons_succ]
            refine take_d 17 (some 34) (v := ?_) rfl (by kernel_rfl) (by kernel_rfl) (by kernel_rfl) (fun _ _ _ h => h) rfl (Or.inl ⟨by rfl, ?_⟩) (by assumption) ?_
            rotate_left
            (focus ((intro w hSw; (try dsimp only at hSw); go_simp); try (with_reducible rfl)))
            try simp only [Act.put, List.setIfInBounds_toArray, List.set_cons_zero, List.set_cons_succ]
            refine take_d 18 (some 35) (v := ?_) rfl (by kernel_rfl) (by kernel_rfl) (by kernel_rfl) (fun _ _ _ h => h) rfl (Or.inl ⟨by rfl, ?_⟩) (by assumption) ?_
            rotate_left
            (focus ((intro w hSw; (try dsimp only at hSw); go_simp); try (with_reducible rfl)))
            try simp only [Act.put, List.setIfInBounds_toArray, List.set_cons_zero, List.set_cons_succ]
            refine call_g 19 (some 36) 11 #[.tmp 35] #[3] rfl (by kernel_rfl) rfl (by rfl) rfl (fun _ _ => rfl) (by simp [Act.eval]) (lpower_any Z _ (by omega)) ?_
            clear hk5
            rintro e w8 ⟨rfl, rfl⟩
            have hk5 := Keeps.refl w7
            rw [HP.out]
            refine ⟨_, rfl, ⟨cell_keeps hk5 hHeld.1, cell_keeps hk5 hHeld.2.1, cell_keeps hk5 hHeld.2.2.1, cell_keeps hk5 hHeld.2.2.2.1, hHeld.2.2.2.2.step hk5⟩, ?_⟩
            have hHeld2 : ((fun w' => w'.cell? ⟨Bv, 0, none⟩ = some (.int .i64 Z) ∧ w'.cell? ⟨Bv, 1, none⟩ = some (.slice A m d) ∧ w'.cell? ⟨Bo, 0, none⟩ = some (.int .i64 W0) ∧ w'.cell? ⟨Bo, 1, none⟩ = some (.slice A0 n0 c0) ∧ Keeps w3 w')) _ := ⟨cell_keeps hk5 hHeld.1, cell_keeps hk5 hHeld.2.1, cell_keeps hk5 hHeld.2.2.1, cell_keeps hk5 hHeld.2.2.2.1, hHeld.2.2.2.2.step hk5⟩
            clear hHeld
            have hHeld := hHeld2
            clear hHeld2
            try simp only [Act.put, List.setIfInBounds_toArray, List.set_cons_zero, List.set_cons_succ]
            refine take_d 20 (some 37) (v := ?_) rfl (by kernel_rfl) (by kernel_rfl) (by kernel_rfl) (fun _ _ _ h => h) rfl (Or.inl ⟨by rfl, ?_⟩) (by assumption) ?_
            rotate_left
            (focus ((intro w hSw; (try dsimp only at hSw); go_simp); try (with_reducible rfl)))
            try simp only [Act.put, List.setIfInBounds_toArray, List.set_cons_zero, List.set_cons_succ]
            refine take_d 21 (some 38) (v := ?_) rfl (by kernel_rfl) (by kernel_rfl) (by kernel_rfl) (fun _ _ _ h => h) rfl (Or.inl ⟨by rfl, ?_⟩) (by assumption) ?_
            rotate_left
            (focus ((intro w hSw; (try dsimp only at hSw); go_simp); try (with_reducible rfl)))
            try simp only [Act.put, List.setIfInBounds_toArray, List.set_cons_zero, List.set_cons_succ]
            refine wpAnyH_done (by kernel_rfl) ?_ _
            go_wp2_with fail
            go_meet
            exact ⟨by rw [HS.out]; rfl, hHeld.2.2.2.2⟩
    case rest =>
      obtain ⟨rfl, hKc⟩ := hcut
      have v0 := cell_keeps hKc v0
      have v1 := cell_keeps hKc v1
      have o0 := cell_keeps hKc o0
      have o1 := cell_keeps hKc o1
      cases hset : setB W m r x s
      · go_wp2_with fail
        refine wp_region_held_drew (S := (fun w' => w'.cell? ⟨Bv, 0, none⟩ = some (.int .i64 W) ∧ w'.cell? ⟨Bv, 1, none⟩ = some (.slice A m d) ∧ w'.cell? ⟨Bo, 0, none⟩ = some (.int .i64 W0) ∧ w'.cell? ⟨Bo, 1, none⟩ = some (.slice A0 n0 c0) ∧ Keeps w3 w')) (by kernel_rfl) (⟨v0, v1, o0, o1, hKc.step (Keeps.drew1 _)⟩) (fun hHeld => ?_)
        refine take_d 0 (some 39) (v := ?_) rfl (by kernel_rfl) (by kernel_rfl) (by kernel_rfl) (fun _ _ _ h => h) rfl (Or.inl ⟨by rfl, ?_⟩) (by assumption) ?_
        rotate_left
        (focus ((intro w hSw; (try dsimp only at hSw); go_simp); try (with_reducible rfl)))
        try simp only [Act.put, List.setIfInBounds_toArray, List.set_cons_zero, List.set_cons_succ]
        refine take_d 1 (some 40) (v := ?_) rfl (by kernel_rfl) (by kernel_rfl) (by kernel_rfl) (fun _ _ _ h => h) rfl (Or.inl ⟨by rfl, ?_⟩) (by assumption) ?_
        rotate_left
        (focus ((intro w hSw; (try dsimp only at hSw); go_simp); try (with_reducible rfl)))
        try simp only [Act.put, List.setIfInBounds_toArray, List.set_cons_zero, List.set_cons_succ]
        refine take_d 2 (some 41) (v := ?_) rfl (by kernel_rfl) (by kernel_rfl) (by kernel_rfl) (fun _ _ _ h => h) rfl (Or.inl ⟨by rfl, ?_⟩) (by assumption) ?_
        rotate_left
        (focus ((intro w hSw; (try dsimp only at hSw); go_simp); try (with_reducible rfl)))
        try simp only [Act.put, List.setIfInBounds_toArray, List.set_cons_zero, List.set_cons_succ]
        refine call_d 3 (some 42) 17 #[.tmp 40, .tmp 41] #[25, 3] rfl (by kernel_rfl) rfl rfl rfl (fun _ _ => rfl) (by simp [Act.eval]) (HSP.out _ (hK13.step hHeld.2.2.2.2)) ?_
        rintro e w5 ⟨A5, c5, r5, rfl, hR5, hl5, hk5⟩
        refine ⟨_, rfl, ⟨cell_keeps hk5 hHeld.1, cell_keeps hk5 hHeld.2.1, cell_keeps hk5 hHeld.2.2.1, cell_keeps hk5 hHeld.2.2.2.1, hHeld.2.2.2.2.step hk5⟩, ?_⟩
        have hHeld2 : ((fun w' => w'.cell? ⟨Bv, 0, none⟩ = some (.int .i64 W) ∧ w'.cell? ⟨Bv, 1, none⟩ = some (.slice A m d) ∧ w'.cell? ⟨Bo, 0, none⟩ = some (.int .i64 W0) ∧ w'.cell? ⟨Bo, 1, none⟩ = some (.slice A0 n0 c0) ∧ Keeps w3 w')) _ := ⟨cell_keeps hk5 hHeld.1, cell_keeps hk5 hHeld.2.1, cell_keeps hk5 hHeld.2.2.1, cell_keeps hk5 hHeld.2.2.2.1, hHeld.2.2.2.2.step hk5⟩
        clear hHeld
        have hHeld := hHeld2
        clear hHeld2
        try simp only [Act.put, List.setIfInBounds_toArray, List.set_cons_zero, List.set_cons_succ]
        refine call_d 4 (some 43) 28 #[.tmp 39, .tmp 42] #[25, 25] rfl (by kernel_rfl) rfl rfl rfl (fun _ _ => rfl) (by simp [Act.eval]) (eView_true A0 A5 n0 c0 c5 W0 r0 r5 x0 x0 _ hn0 (HR0.out.keeps hHeld.2.2.2.2) hR5 (fun i hi => by rw [HL0.out i hi]; omega) (fun i hi => ⟨by rw [HL0.out i hi, hl5 i hi], fun _ _ => rfl⟩)) ?_
        clear hR5 hl5 hk5
        rintro e w6 ⟨rfl, hk5⟩
        refine ⟨_, rfl, ⟨cell_keeps hk5 hHeld.1, cell_keeps hk5 hHeld.2.1, cell_keeps hk5 hHeld.2.2.1, cell_keeps hk5 hHeld.2.2.2.1, hHeld.2.2.2.2.step hk5⟩, ?_⟩
        have hHeld2 : ((fun w' => w'.cell? ⟨Bv, 0, none⟩ = some (.int .i64 W) ∧ w'.cell? ⟨Bv, 1, none⟩ = some (.slice A m d) ∧ w'.cell? ⟨Bo, 0, none⟩ = some (.int .i64 W0) ∧ w'.cell? ⟨Bo, 1, none⟩ = some (.slice A0 n0 c0) ∧ Keeps w3 w')) _ := ⟨cell_keeps hk5 hHeld.1, cell_keeps hk5 hHeld.2.1, cell_keeps hk5 hHeld.2.2.1, cell_keeps hk5 hHeld.2.2.2.1, hHeld.2.2.2.2.step hk5⟩
        clear hHeld
        have hHeld := hHeld2
        clear hHeld2
        try simp only [Act.put, List.setIfInBounds_toArray, List.set_cons_zero, List.set_cons_succ]
        refine take_d 5 (some 2) (v := ?_) rfl (by kernel_rfl) (by kernel_rfl) (by kernel_rfl) (fun _ _ _ h => h) rfl (Or.inl ⟨by rfl, ?_⟩) (by assumption) ?_
        rotate_left
        (focus ((intro w hSw; (try dsimp only at hSw); go_simp); try (with_reducible rfl)))
        try simp only [Act.put, List.setIfInBounds_toArray, List.set_cons_zero, List.set_cons_succ]
        refine wpAnyH_done (by kernel_rfl) ?_ _
        go_wp2
        go_ret
        exact ⟨rfl, (hK1.step hK13).step (hHeld.2.2.2.2)⟩
      · obtain ⟨Z, S, rfl, rfl, hZ1, hZ2, hm4, hS, hS2, hrow⟩ := setB_iff W m r x s hset
        obtain ⟨h1, h2, h3, h4⟩ := HX0.out Z S rfl rfl hset
        subst h1
        subst h2
        subst h3
        have HV0 : Hid (validB N0 n0 r0 x0 = true) := Lib.hid (by rw [h4]; exact told_valid hZ1 hZ2 hm4.1 hm4.2 HL0.out)
        have HSB0 : Hid (setB N0 n0 r0 x0 S = true) := Lib.hid (by rw [h4]; exact told_setB hZ1 hZ2 hm4.1 hm4.2 HL0.out hS)
        have HC0 : Hid (comAns N0 n0 r0 x0 S = S) := Lib.hid (by
          unfold comAns
          rw [HSB0.out, if_pos rfl, h4, Int.toNat_natCast, Int.toNat_natCast, told_common x S N0 n0 hZ2 hS hS2])
        have HLL0 : Hid (∀ i, i < n0 → (r0 i).2.1 ≤ 1099511627776) := Lib.hid (fun i hi => by rw [HL0.out i hi]; omega)
        have HT0 : Hid (∀ wx, Keeps w3 wx → Calls Try.prog 19 #[.agg #[.int .i64 N0, .slice A0 n0 c0], .int .i64 S] wx (Told N0 n0 N0 x0 wx)) := Lib.hid (fun wx hk => by
          have h := told_of (iTellAll_yes A0 n0 c0 N0 S r0 x0 wx (by omega) (HR0.out.keeps hk) HLL0.out HSB0.out)
          have e : toldX x0 S N0 n0 = x0 := by rw [h4]; exact told_told x S N0 n0
          rwa [e] at h)
        clear h4 hrow hset
        have hq : ((S : Int) == (S : Int)) = true := by simp
        go_wp2_with fail
        refine wp_region_held_drew (S := (fun w' => w'.cell? ⟨Bv, 0, none⟩ = some (.int .i64 N0) ∧ w'.cell? ⟨Bv, 1, none⟩ = some (.slice A n0 d) ∧ w'.cell? ⟨Bo, 0, none⟩ = some (.int .i64 N0) ∧ w'.cell? ⟨Bo, 1, none⟩ = some (.slice A0 n0 c0) ∧ Keeps w3 w')) (by kernel_rfl) (⟨v0, v1, o0, o1, hKc.step (Keeps.drew1 _)⟩) (fun hHeld => ?_)
        refine take_d 0 (some 44) (v := ?_) rfl (by kernel_rfl) (by kernel_rfl) (by kernel_rfl) (fun _ _ _ h => h) rfl (Or.inl ⟨by rfl, ?_⟩) (by assumption) ?_
        rotate_left
        (focus ((intro w hSw; (try dsimp only at hSw); go_simp); try (with_reducible rfl)))
        try simp only [Act.put, List.setIfInBounds_toArray, List.set_cons_zero, List.set_cons_succ]
        refine call_d 1 (some 45) 29 #[.tmp 44] #[25] rfl (by kernel_rfl) rfl rfl rfl (fun _ _ => rfl) (by simp [Act.eval]) (validView_any A0 n0 c0 r0 x0 N0 _ (by omega) (HR0.out.keeps hHeld.2.2.2.2) HLL0.out) ?_
        rintro e w5 ⟨rfl, hk5⟩
        rw [HV0.out]
        refine ⟨_, rfl, ⟨cell_keeps hk5 hHeld.1, cell_keeps hk5 hHeld.2.1, cell_keeps hk5 hHeld.2.2.1, cell_keeps hk5 hHeld.2.2.2.1, hHeld.2.2.2.2.step hk5⟩, ?_⟩
        have hHeld2 : ((fun w' => w'.cell? ⟨Bv, 0, none⟩ = some (.int .i64 N0) ∧ w'.cell? ⟨Bv, 1, none⟩ = some (.slice A n0 d) ∧ w'.cell? ⟨Bo, 0, none⟩ = some (.int .i64 N0) ∧ w'.cell? ⟨Bo, 1, none⟩ = some (.slice A0 n0 c0) ∧ Keeps w3 w')) _ := ⟨cell_keeps hk5 hHeld.1, cell_keeps hk5 hHeld.2.1, cell_keeps hk5 hHeld.2.2.1, cell_keeps hk5 hHeld.2.2.2.1, hHeld.2.2.2.2.step hk5⟩
        clear hHeld
        have hHeld := hHeld2
        clear hHeld2
        try simp only [Act.put, List.setIfInBounds_toArray, List.set_cons_zero, List.set_cons_succ]
        refine take_d 2 (some 46) (v := ?_) rfl (by kernel_rfl) (by kernel_rfl) (by kernel_rfl) (fun _ _ _ h => h) rfl (Or.inl ⟨by rfl, ?_⟩) (by assumption) ?_
        rotate_left
        (focus ((intro w hSw; (try dsimp only at hSw); go_simp); try (with_reducible rfl)))
        try simp only [Act.put, List.setIfInBounds_toArray, List.set_cons_zero, List.set_cons_succ]
        refine take_d 3 (some 47) (v := ?_) rfl (by kernel_rfl) (by kernel_rfl) (by kernel_rfl) (fun _ _ _ h => h) rfl (Or.inl ⟨by rfl, ?_⟩) (by assumption) ?_
        rotate_left
        (focus ((intro w hSw; (try dsimp only at hSw); go_simp); try (with_reducible rfl)))
        try simp only [Act.put, List.setIfInBounds_toArray, List.set_cons_zero, List.set_cons_succ]
        refine take_d 4 (some 48) (v := ?_) rfl (by kernel_rfl) (by kernel_rfl) (by kernel_rfl) (fun _ _ _ h => h) rfl (Or.inl ⟨by rfl, ?_⟩) (by assumption) ?_
        rotate_left
        (focus ((intro w hSw; (try dsimp only at hSw); go_simp); try (with_reducible rfl)))
        try simp only [Act.put, List.setIfInBounds_toArray, List.set_cons_zero, List.set_cons_succ]
        refine take_d 6 (some 50) (v := ?_) rfl (by kernel_rfl) (by kernel_rfl) (by kernel_rfl) (fun _ _ _ h => h) rfl (Or.inl ⟨by rfl, ?_⟩) (by assumption) ?_
        rotate_left
        (focus ((intro w hSw; (try dsimp only at hSw); go_simp); try (with_reducible rfl)))
        try simp only [Act.put, List.setIfInBounds_toArray, List.set_cons_zero, List.set_cons_succ]
        refine call_g 5 (some 49) 14 #[.tmp 47, .tmp 48] #[25, 3] rfl (by kernel_rfl) rfl (by rfl) rfl (fun _ _ => rfl) (by simp [Act.eval]) (iCommonOf_any A0 n0 c0 r0 x0 N0 S _ (by omega) (HR0.out.keeps hHeld.2.2.2.2) HLL0.out) ?_
        clear hk5
        rintro e w6 ⟨rfl, hk5⟩
        rw [HC0.out]
        refine ⟨_, rfl, ⟨cell_keeps hk5 hHeld.1, cell_keeps hk5 hHeld.2.1, cell_keeps hk5 hHeld.2.2.1, cell_keeps hk5 hHeld.2.2.2.1, hHeld.2.2.2.2.step hk5⟩, ?_⟩
        have hHeld2 : ((fun w' => w'.cell? ⟨Bv, 0, none⟩ = some (.int .i64 N0) ∧ w'.cell? ⟨Bv, 1, none⟩ = some (.slice A n0 d) ∧ w'.cell? ⟨Bo, 0, none⟩ = some (.int .i64 N0) ∧ w'.cell? ⟨Bo, 1, none⟩ = some (.slice A0 n0 c0) ∧ Keeps w3 w')) _ := ⟨cell_keeps hk5 hHeld.1, cell_keeps hk5 hHeld.2.1, cell_keeps hk5 hHeld.2.2.1, cell_keeps hk5 hHeld.2.2.2.1, hHeld.2.2.2.2.step hk5⟩
        clear hHeld
        have hHeld := hHeld2
        clear hHeld2
        try simp only [Act.put, List.setIfInBounds_toArray, List.set_cons_zero, List.set_cons_succ]
        refine take_d 7 (some 51) (v := .bool true) rfl (by kernel_rfl) (by kernel_rfl) (by kernel_rfl) (fun _ _ _ h => h) rfl (Or.inl ⟨by rfl, ?_⟩) (by assumption) ?_
        (focus ((intro w hSw; clear hSw; go_simp; try simp)))
        try simp only [Act.put, List.setIfInBounds_toArray, List.set_cons_zero, List.set_cons_succ]
        refine take_d 8 (some 52) (v := ?_) rfl (by kernel_rfl) (by kernel_rfl) (by kernel_rfl) (fun _ _ _ h => h) rfl (Or.inl ⟨by rfl, ?_⟩) (by assumption) ?_
        rotate_left
        (focus ((intro w hSw; (try dsimp only at hSw); go_simp); try (with_reducible rfl)))
        try simp only [Act.put, List.setIfInBounds_toArray, List.set_cons_zero, List.set_cons_succ]
        refine take_d 9 (some 53) (v := ?_) rfl (by kernel_rfl) (by kernel_rfl) (by kernel_rfl) (fun _ _ _ h => h) rfl (Or.inl ⟨by rfl, ?_⟩) (by assumption) ?_
        rotate_left
        (focus ((intro w hSw; (try dsimp only at hSw); go_simp); try (with_reducible rfl)))
        try simp only [Act.put, List.setIfInBounds_toArray, List.set_cons_zero, List.set_cons_succ]
        refine take_d 10 (some 54) (v := ?_) rfl (by kernel_rfl) (by kernel_rfl) (by kernel_rfl) (fun _ _ _ h => h) rfl (Or.inl ⟨by rfl, ?_⟩) (by assumption) ?_
        rotate_left
        (focus ((intro w hSw; (try dsimp only at hSw); go_simp); try (with_reducible rfl)))
        try simp only [Act.put, List.setIfInBounds_toArray, List.set_cons_zero, List.set_cons_succ]
        refine take_d 11 (some 55) (v := ?_) rfl (by kernel_rfl) (by kernel_rfl) (by kernel_rfl) (fun _ _ _ h => h) rfl (Or.inl ⟨by rfl, ?_⟩) (by assumption) ?_
        rotate_left
        (focus ((intro w hSw; (try dsimp only at hSw); go_simp); try (with_reducible rfl)))
        try simp only [Act.put, List.setIfInBounds_toArray, List.set_cons_zero, List.set_cons_succ]
        refine take_d 13 (some 57) (v := ?_) rfl (by kernel_rfl) (by kernel_rfl) (by kernel_rfl) (fun _ _ _ h => h) rfl (Or.inl ⟨by rfl, ?_⟩) (by assumption) ?_
        rotate_left
        (focus ((intro w hSw; (try dsimp only at hSw); go_simp); try (with_reducible rfl)))
        try simp only [Act.put, List.setIfInBounds_toArray, List.set_cons_zero, List.set_cons_succ]
        refine call_g 12 (some 56) 19 #[.tmp 54, .tmp 55] #[25, 3] rfl (by kernel_rfl) rfl (by rfl) rfl (fun _ _ => rfl) (by simp [Act.eval]) (HT0.out _ hHeld.2.2.2.2) ?_
        clear hk5
        rintro e w7 ⟨A5, c5, r5, rfl, hR5, hl5, hk5⟩
        refine ⟨_, rfl, ⟨cell_keeps hk5 hHeld.1, cell_keeps hk5 hHeld.2.1, cell_keeps hk5 hHeld.2.2.1, cell_keeps hk5 hHeld.2.2.2.1, hHeld.2.2.2.2.step hk5⟩, ?_⟩
        have hHeld2 : ((fun w' => w'.cell? ⟨Bv, 0, none⟩ = some (.int .i64 N0) ∧ w'.cell? ⟨Bv, 1, none⟩ = some (.slice A n0 d) ∧ w'.cell? ⟨Bo, 0, none⟩ = some (.int .i64 N0) ∧ w'.cell? ⟨Bo, 1, none⟩ = some (.slice A0 n0 c0) ∧ Keeps w3 w')) _ := ⟨cell_keeps hk5 hHeld.1, cell_keeps hk5 hHeld.2.1, cell_keeps hk5 hHeld.2.2.1, cell_keeps hk5 hHeld.2.2.2.1, hHeld.2.2.2.2.step hk5⟩
        clear hHeld
        have hHeld := hHeld2
        clear hHeld2
        try simp only [Act.put, List.setIfInBounds_toArray, List.set_cons_zero, List.set_cons_succ]
        refine call_g 14 (some 58) 28 #[.tmp 56, .tmp 57] #[25, 25] rfl (by kernel_rfl) rfl (by rfl) rfl (fun _ _ => rfl) (by simp [Act.eval]) (eView_true A5 A0 n0 c5 c0 N0 r5 r0 x0 x0 _ (by omega) hR5 (HR0.out.keeps hHeld.2.2.2.2) (fun i hi => by rw [hl5 i hi]; omega) (fun i hi => ⟨by rw [HL0.out i hi, hl5 i hi], fun _ _ => rfl⟩)) ?_
        clear hR5 hl5 hk5
        rintro e w8 ⟨rfl, hk5⟩
        refine ⟨_, rfl, ⟨cell_keeps hk5 hHeld.1, cell_keeps hk5 hHeld.2.1, cell_keeps hk5 hHeld.2.2.1, cell_keeps hk5 hHeld.2.2.2.1, hHeld.2.2.2.2.step hk5⟩, ?_⟩
        have hHeld2 : ((fun w' => w'.cell? ⟨Bv, 0, none⟩ = some (.int .i64 N0) ∧ w'.cell? ⟨Bv, 1, none⟩ = some (.slice A n0 d) ∧ w'.cell? ⟨Bo, 0, none⟩ = some (.int .i64 N0) ∧ w'.cell? ⟨Bo, 1, none⟩ = some (.slice A0 n0 c0) ∧ Keeps w3 w')) _ := ⟨cell_keeps hk5 hHeld.1, cell_keeps hk5 hHeld.2.1, cell_keeps hk5 hHeld.2.2.1, cell_keeps hk5 hHeld.2.2.2.1, hHeld.2.2.2.2.step hk5⟩
        clear hHeld
        have hHeld := hHeld2
        clear hHeld2
        try simp only [Act.put, List.setIfInBounds_toArray, List.set_cons_zero, List.set_cons_succ]
        refine take_d 15 (some 59) (v := ?_) rfl (by kernel_rfl) (by kernel_rfl) (by kernel_rfl) (fun _ _ _ h => h) rfl (Or.inl ⟨by rfl, ?_⟩) (by assumption) ?_
        rotate_left
        (focus ((intro w hSw; (try dsimp only at hSw); go_simp); try (with_reducible rfl)))
        try simp only [Act.put, List.setIfInBounds_toArray, List.set_cons_zero, List.set_cons_succ]
        refine take_d 16 (some 2) (v := ?_) rfl (by kernel_rfl) (by kernel_rfl) (by kernel_rfl) (fun _ _ _ h => h) rfl (Or.inl ⟨by rfl, ?_⟩) (by assumption) ?_
        rotate_left
        (focus ((intro w hSw; (try dsimp only at hSw); go_simp); try (with_reducible rfl)))
        try simp only [Act.put, List.setIfInBounds_toArray, List.set_cons_zero, List.set_cons_succ]
        refine wpAnyH_done (by kernel_rfl) ?_ _
        go_wp2
        go_ret
        exact ⟨rfl, (hK1.step hK13).step (hHeld.2.2.2.2)⟩
end Go.Proofs.Ytalafojkmomolaa
