/-
  The contract of goodNet of the generator: whatever the code is, a net in new memory. Condition: at most 900 picks so far.
-/
import Derived.Test.YtdjilgbcpdlkfaaNetOf
import Derived.Test.YtdjilgbcpdlkfaaRingN
namespace Go.Proofs.Ytdjilgbcpdlkfaa
open Go.RowKit

/-- Sets of nodes of the call's own. -/
def Near (w : World) (lo g m c : Nat) : Prop := ∃ near : Nat → Nat, OwnInts w lo (some ⟨g, 0, none⟩) m c (il m (fun v => (near v : Nat))) ∧ ∀ v, v < m → near v < 64
/-- A drawing under way: the result's box R, the sets in block g, the reader. -/
structure GoodB (b lo R g m c q : Nat) (w wx : World) : Prop where
  r : Blk wx R 27 #[.slice none 0 0, .slice none 0 0]
  near : Near wx lo g m c
  rd : Rd wx b q
  gro : Gro b w wx
theorem GoodB.keeps {b lo R g m c q : Nat} {w wx wy : World} (h : GoodB b lo R g m c q w wx) (kk : Keeps wx wy) : GoodB b lo R g m c q w wy := by
  obtain ⟨near, h1, h2⟩ := h.near
  exact ⟨h.r.keeps kk, ⟨near, h1.keeps kk, h2⟩, h.rd.gro kk, h.gro.step (Gro.ofKeeps kk)⟩
theorem GoodB.gro' {b lo R g m c q q' : Nat} {w wx wy : World} (h : GoodB b lo R g m c q w wx) (gg : Gro b wx wy) (hr : Rd wy b q') (hR : b < R) : GoodB b lo R g m c q' w wy := by
  obtain ⟨near, h1, h2⟩ := h.near
  exact ⟨h.r.grown gg (by simp; omega), ⟨near, own_gro h1 gg h.rd, h2⟩, hr, h.gro.step gg⟩
theorem GoodB.set {b lo R g m c q : Nat} {w wx : World} (h : GoodB b lo R g m c q w wx) (j : Nat) (y : Int) (x : Nat) (hy : y = (x : Nat)) (hx : x < 64) (hlo : w.heap.size ≤ lo) (hb : b < lo) (_ : b < R) : GoodB b lo R g m c q w (wx.setCell ⟨g, j, none⟩ (.int .i64 y)) := by
  subst hy
  obtain ⟨near, h1, h2⟩ := h.near
  have hg := h1.block
  refine ⟨h.r.set_other _ _ ?_, ⟨fun v => if v = j then x else near v, ?_, fun v hv => ?_⟩, h.rd.set_other (by omega) _, h.gro.setAbove (by omega) _⟩
  · intro e
    simp at e
    exact own_other h1 h.r (by decide) g rfl (by rw [e])
  · have := h1.set j (x : Int)
    rw [il_set] at this
    rw [il_congr m _ (fun i => if i = j then (x : Int) else (near i : Nat)) (fun i _ => by dsimp only; split <;> rfl)]
    exact this
  · dsimp only
    split
    · exact hx
    · exact h2 v hv
theorem or_low {x u : Nat} (hx : x < 64) (hu : u < 6) : x ||| 2 ^ u < 64 := by
  have : 2 ^ u < 2 ^ 6 := Nat.pow_lt_pow_right (by omega) hu
  exact Nat.or_lt_two_pow (n := 6) (by omega) this
theorem GoodB.above {b lo R g m c q lo2 : Nat} {w wx wy : World} {row : Option Nat} (h : GoodB b lo R g m c q w wx) (hg : wx.grownBy wy row) (hr : ∀ x, row = some x → lo2 ≤ x) (h1 : g < lo2) (h2 : R < lo2) (h3 : b < lo2) (h4 : w.heap.size ≤ lo2) : GoodB b lo R g m c q w wy := by
  obtain ⟨near, n1, n2⟩ := h.near
  exact ⟨h.r.grown hg (fun e => by have := hr R e.symm; omega), ⟨near, own_kept n1 hg (fun k hk e => by have := hr k e; simp at hk; omega), n2⟩, h.rd.grown hg (fun x hx => by have := hr x hx; omega), h.gro.above hg (fun x hx => by have := hr x hx; omega)⟩
theorem GoodB.g_lt {b lo R g m c q : Nat} {w wx : World} (h : GoodB b lo R g m c q w wx) : g < wx.heap.size ∧ lo ≤ g := by
  obtain ⟨near, n1, n2⟩ := h.near
  exact ⟨n1.block.2, n1.block.1⟩
set_option maxRecDepth 100000 in
set_option maxHeartbeats 40000000 in
theorem goodNet_any (b p : Nat) (w : World) (h : Rd w b p) (hp : p ≤ 800) :
    Calls Try.prog 75 #[.pointer (some ⟨b, 0, none⟩)] w (NetDrawn b p 150 w) := by
  have HR := Lib.hid h
  clear h
  have hbw := HR.out.lt
  go_enter Try.func75, Try.ntmps75
  go_wp2_with fail
  refine (one_lit b p [4, 5, 3, 6, 2, 1] 1 6 _ _ _ _ (by decide) (by decide) (by decide) (by omega) (HR.out.gro (Keeps.alloc _ _)) rfl (by simp) rfl).mono ?_
  rintro e w1 ⟨m, rfl, hm1, hm2, hR1, hG1⟩
  obtain ⟨m, rfl⟩ := Int.eq_ofNat_of_zero_le (show 0 ≤ m by omega)
  have hB1 : Blk w1 w.heap.size 27 #[.slice none 0 0, .slice none 0 0] := ((Blk.new w _ _).keeps (Keeps.alloc _ _)).grown hG1 (by simp; omega)
  have hGG1 : Gro b w w1 := ((Gro.ofKeeps (Keeps.alloc w _)).step (Gro.ofKeeps (Keeps.alloc _ _))).step hG1
  have kM := Keeps.alloc w1 (.cells (madeCells #[.int .i64 0] m) 3)
  have HS0 : Hid (GoodB b w.heap.size w.heap.size w1.heap.size m m (p + 1) w (w1.alloc (.cells (madeCells #[.int .i64 0] m) 3))) := Lib.hid ⟨hB1.keeps kM, ⟨fun _ => 0, by
    have := OwnInts.make w1 w.heap.size m hGG1.size (by omega)
    rw [il_zero] at this
    exact this, fun _ _ => by dsimp only; omega⟩, hR1.gro kM, hGG1.step (Gro.ofKeeps kM)⟩
  have hmk2 := make_ints m (by omega)
  clear hB1 hGG1 hG1 hR1 kM
  go_wp2_with fail
  refine (pick_any b (p + 1) 5 _ HS0.out.rd (by omega)).mono ?_
  rintro e w2 ⟨kd, rfl, hkd, hR2, hG2⟩
  have HS2 := Lib.hid (HS0.out.gro' hG2 hR2 hbw)
  have hkd5 : kd < 5 := by omega
  clear HS0 hR2 hG2 hkd
  generalize w1.heap.size = g at *
  by_cases hc : kd = 0 ∧ 2 < m
  · obtain ⟨rfl, hm3⟩ := hc
    have hm3i : (2 : Int) < m := by omega
    have hgl := HS2.out.g_lt
    have hrl := HS2.out.r.lt
    have hsl := HS2.out.gro.size
    have HL0 : Hid (OwnInts (w2.alloc (.cells #[] 3)) w2.heap.size (some ⟨w2.heap.size, 0, none⟩) 0 0 []) := Lib.hid (OwnInts.made w2 w2.heap.size (Nat.le_refl _))
    have HZ0 : Hid (w2.heap.size ≤ (w2.alloc (.cells #[] 3)).heap.size) := Lib.hid (Keeps.alloc _ _).size
    have HS3 := Lib.hid (HS2.out.keeps (Keeps.alloc w2 (.cells #[] 3)))
    clear HS2
    go_wp2_with fail
    go_loopg [6] m (fun gk sv wr => ∃ (k q : Nat) (A : Option Addr) (c : Nat) (l : List Int), Hid (k + gk = m) ∧ k ≤ m ∧ q ≤ p + 2 + k ∧ sv = .slice A k c ∧ Hid (OwnInts wr w2.heap.size A k c l) ∧ Hid (w2.heap.size ≤ wr.heap.size) ∧ Hid (∀ x, x ∈ l → 0 ≤ x ∧ x ≤ 1) ∧ Hid (GoodB b w.heap.size w.heap.size g m m q w wr))
    case atStart => exact ⟨0, p + 2, _, 0, [], Lib.hid (by omega), by omega, by omega, rfl, HL0, HZ0, Lib.hid (fun x hx => absurd hx (by simp)), HS3⟩
    case round =>
      clear HL0 HS3 HZ0
      obtain ⟨k, q, A, c, l, HKG, hk, hq, rfl, HL, HZ, H01, HS⟩ := hrel
      by_cases hlt : k < m
      · have hki : (k : Int) < m := by omega
        go_wp2_with fail
        refine (pick_any b q 2 _ HS.out.rd (by omega)).mono ?_
        rintro e w3 ⟨x, rfl, hx, hR3, hG3⟩
        have HL3 := Lib.hid (own_gro HL.out hG3 HS.out.rd)
        have HS4 := Lib.hid (HS.out.gro' hG3 hR3 hbw)
        have hsz : w2.heap.size ≤ w3.heap.size := Nat.le_trans HZ.out hG3.size
        clear hR3 hG3 HL HS
        go_wp2_with (first | (at_builtin; refine wp_app_int rfl _ _ rfl w2.heap.size A k c l _ rfl HL3.out _ rfl (by omega) hsz ?_; intro g6 c6 w6 hO6 hg6))
        have HL6 := Lib.hid hO6
        have HK6 : Hid (GoodB b w.heap.size w.heap.size g m m (q + 1) w w6) := Lib.hid (HS4.out.above hg6 (fun x hx => (own_block HL3.out x hx).1) hgl.1 hrl (by omega) hsl)
        have HZ6 : Hid (w2.heap.size ≤ w6.heap.size) := Lib.hid (Nat.le_trans hsz hg6.size)
        have H016 : Hid (∀ y, y ∈ l ++ [(x : Int)] → 0 ≤ y ∧ y ≤ 1) := Lib.hid (fun y hy => by
          rw [List.mem_append] at hy
          rcases hy with hy | hy
          · exact H01.out y hy
          · have : y = (x : Int) := by simpa using hy
            omega)
        clear hO6 hg6 HL3 HS4
        go_wp2_with fail
        go_roundg (gk - 1)
        case measure => have := HKG.out; omega
        case rel => exact ⟨k + 1, q + 1, _, c6, _, Lib.hid (by have := HKG.out; omega), by omega, by omega, rfl, HL6, HZ6, H016, HK6⟩
      · obtain rfl : k = m := by omega
        have hI := HL.out.ints
        have hkk : ringOkB k (fun i => l.getD i 0) = true := by
          unfold ringOkB
          rw [inB_mk (by omega) (by omega), Bool.true_and, Bool.not_eq_true', anyB_false]
          intro i hi
          have hll := HL.out.len
          have hm : l.getD i 0 ∈ l := by
            rw [List.getD_eq_getElem?_getD, List.getElem?_eq_getElem (by omega)]
            exact List.getElem_mem (by omega)
          have := H01.out _ hm
          rw [inB_mk this.1 (by omega)]
          rfl
        have HOK := Lib.hid hkk
        have CR := Lib.hid (sRingOf_any A k c (fun i => l.getD i 0) wr (by omega) hI)
        clear hI hkk
        go_wp2_with fail
        refine CR.out.mono ?_
        rintro e w4 hA
        rcases hA with ⟨h1, _⟩ | ⟨_, RA, RB, rc, rd, rfl, hO4, hM4, hN4, hk4⟩
        · rw [HOK.out] at h1; cases h1
        · have HS5 := Lib.hid (HS.out.keeps hk4)
          have HN5 := Lib.hid (hN4.mono (lo' := w.heap.size) HS.out.gro.size)
          clear hO4 hM4 hN4 hk4 HS
          have kV := Keeps.alloc w4 (.cells #[.slice RA k rc, .slice RB k rd] 27)
          have hV := Blk.new w4 #[.slice RA k rc, .slice RB k rd] 27
          have v0 : (w4.alloc (.cells #[.slice RA k rc, .slice RB k rd] 27)).cell? ⟨w4.heap.size, 0, none⟩ = some (.slice RA k rc) := by rw [hV.cell]; rfl
          have v1 : (w4.alloc (.cells #[.slice RA k rc, .slice RB k rd] 27)).cell? ⟨w4.heap.size, 1, none⟩ = some (.slice RB k rd) := by rw [hV.cell]; rfl
          have hR5 := HS5.out.r.keeps kV
          have c0 : (w4.alloc (.cells #[.slice RA k rc, .slice RB k rd] 27)).cell? ⟨w.heap.size, 0, none⟩ = some (.slice none 0 0) := by rw [hR5.cell]; rfl
          have c1 : (w4.alloc (.cells #[.slice RA k rc, .slice RB k rd] 27)).cell? ⟨w.heap.size, 1, none⟩ = some (.slice none 0 0) := by rw [hR5.cell]; rfl
          have f0 := hR5.frozen 0
          have f1 := hR5.frozen 1
          have HN6 := Lib.hid (HN5.out.keeps kV)
          have HS6 := Lib.hid (HS5.out.keeps kV)
          have hR6 := hR5.set 0 (.slice RA k rc)
          go_wp2_with fail
          have k1 := (hR6.set 1 (.slice RB k rd)).cell 0
          have k2 := (hR6.set 1 (.slice RB k rd)).cell 1
          refine bodyPost_ret (v := .agg #[.slice RA k rc, .slice RB k rd]) (by simp [results, Try.results75, go_sem, k1, k2]) rfl ⟨k, q, RA, RB, rc, rd, rfl, ?_, by omega, by omega, (HS6.out.rd.set_other (by omega) _).set_other (by omega) _, by omega, (HS6.out.gro.setAbove (Nat.le_refl _) _).setAbove (Nat.le_refl _) _⟩
          exact (HN6.out.grown (grown_set _ _ _ _) hR5 (by decide) (by decide)).grown (grown_set _ _ _ _) hR6 (by decide) (by decide)
  · have hk0' : (((kd : Int) == 0) = true ∧ (m : Int) ≤ 2) ∨ ((kd : Int) == 0) = false := by
      by_cases e : kd = 0
      · exact .inl ⟨by simp [e], by omega⟩
      · exact .inr (by simp; omega)
    clear hc
    rcases hk0' with ⟨hk0, hmle⟩ | hk0
    all_goals
      go_wp2_with fail
      go_loopw [9] (fun i wr => ∃ (v q : Nat), 1 ≤ v ∧ v ≤ m ∧ i = .int .i64 v ∧ q ≤ p + 2 + v ∧ Hid (GoodB b w.heap.size w.heap.size g m m q w wr)) (fun i _ => m - (intOf i).toNat)
      case atStart => exact ⟨1, p + 2, by omega, by omega, rfl, by omega, HS2⟩
      case round =>
        clear HS2
        obtain ⟨v, q, hv1, hv, rfl, hq, HS⟩ := hrel
        by_cases hlt : v < m
        · have hvi : (v : Int) < m := by omega
          go_wp2_with fail
          refine (pick_any b q v _ HS.out.rd (by omega)).mono ?_
          rintro e w3 ⟨x, rfl, hx, hR3, hG3⟩
          have hxv : x < v := by omega
          have hxm : (x : Int) < m := by omega
          have hm00 : 0 < m := by omega
          have hm0i : (0 : Int) < m := by omega
          have HS3 := Lib.hid (HS.out.gro' hG3 hR3 hbw)
          clear hR3 hG3 HS hx
          by_cases e1 : kd = 1
          · have hk1 : ((kd : Int) == 1) = true := by simp [e1]
            clear e1
            obtain ⟨near59, hn59, hl59⟩ := HS3.out.near
            have hc59 := hn59.cell v (by omega)
            rw [il_getD _ _ _ (by omega)] at hc59
            have hf59 := hn59.frozen v
            have hx59 := hl59 v (by omega)
            have CP59 : Hid (∀ w, Calls Try.prog 66 #[.int .i64 0] w fun e w' => e = .returned (.int .i64 ((2 ^ 0 : Nat) : Int)) ∧ w = w') := Lib.hid (fun w => by simpa using spower_any 0 w (by omega))
            generalize near59 v = x59 at *
            have HO59 := Lib.hid (bits_or x59 (2 ^ 0) (by omega) (pow_lt63 _ (by omega)))
            have HX59 := Lib.hid (or_low (x := x59) (u := 0) hx59 (by omega))
            clear hn59 hl59
            generalize 2 ^ 0 = P59 at *
            go_wp2_with fail
            go_region_law (first | (refine step_go 66 #[.tmp 59] #[3] rfl rfl (fun _ _ => rfl) (by simp [Act.eval, Act.put]) (CP59.out _) ?_; rintro e w59 ⟨rfl, rfl⟩; refine ⟨_, rfl, ?_⟩))
            all_goals
              have HSA : Hid (GoodB b w.heap.size w.heap.size g m m _ w (w3.setCell ⟨g, v, none⟩ (.int .i64 (bits .or .i64 (x59 : Int) (P59 : Int)))).drew) := Lib.hid ((HS3.out.set v (bits .or .i64 (x59 : Int) (P59 : Int)) (x59 ||| P59) HO59.out HX59.out (Nat.le_refl _) hbw hbw).keeps (Keeps.drew1 _))
              clear hc59 hf59 hx59 HO59 HX59 CP59
              go_upto_region 18 with fail
              generalize (w3.setCell ⟨g, v, none⟩ (.int .i64 (bits .or .i64 (x59 : Int) (P59 : Int)))).drew = wA at *
              obtain ⟨near69, hn69, hl69⟩ := HSA.out.near
              have hc69 := hn69.cell 0 (by omega)
              rw [il_getD _ _ _ (by omega)] at hc69
              have hf69 := hn69.frozen 0
              have hx69 := hl69 0 (by omega)
              have CP69 : Hid (∀ w, Calls Try.prog 66 #[.int .i64 (v : Nat)] w fun e w' => e = .returned (.int .i64 ((2 ^ v : Nat) : Int)) ∧ w = w') := Lib.hid (fun w => spower_any v w (by omega))
              generalize near69 0 = x69 at *
              have HO69 := Lib.hid (bits_or x69 (2 ^ v) (by omega) (pow_lt63 _ (by omega)))
              have HX69 := Lib.hid (or_low (x := x69) (u := v) hx69 (by omega))
              clear hn69 hl69
              generalize 2 ^ v = P69 at *
              go_wp2_with fail
              go_region_law (first | (refine step_go 66 #[.tmp 69] #[3] rfl rfl (fun _ _ => rfl) (by simp [Act.eval, Act.put]) (CP69.out _) ?_; rintro e w69 ⟨rfl, rfl⟩; refine ⟨_, rfl, ?_⟩))
              all_goals
                have HSB : Hid (GoodB b w.heap.size w.heap.size g m m _ w (wA.setCell ⟨g, 0, none⟩ (.int .i64 (bits .or .i64 (x69 : Int) (P69 : Int)))).drew) := Lib.hid ((HSA.out.set 0 (bits .or .i64 (x69 : Int) (P69 : Int)) (x69 ||| P69) HO69.out HX69.out (Nat.le_refl _) hbw hbw).keeps (Keeps.drew1 _))
                clear hc69 hf69 hx69 HO69 HX69 CP69
                go_wp2_with fail
                go_roundw
                case rel => exact ⟨v + 1, q + 1, by omega, by omega, by go_num, by omega, HSB⟩
                case measure => simp [intOf]; omega
          · have hk1 : ((kd : Int) == 1) = false := by simp; omega
            clear e1
            obtain ⟨near59, hn59, hl59⟩ := HS3.out.near
            have hc59 := hn59.cell v (by omega)
            rw [il_getD _ _ _ (by omega)] at hc59
            have hf59 := hn59.frozen v
            have hx59 := hl59 v (by omega)
            have CP59 : Hid (∀ w, Calls Try.prog 66 #[.int .i64 (x : Nat)] w fun e w' => e = .returned (.int .i64 ((2 ^ x : Nat) : Int)) ∧ w = w') := Lib.hid (fun w => spower_any x w (by omega))
            generalize near59 v = x59 at *
            have HO59 := Lib.hid (bits_or x59 (2 ^ x) (by omega) (pow_lt63 _ (by omega)))
            have HX59 := Lib.hid (or_low (x := x59) (u := x) hx59 (by omega))
            clear hn59 hl59
            generalize 2 ^ x = P59 at *
            go_wp2_with fail
            go_region_law (first | (refine step_go 66 #[.tmp 59] #[3] rfl rfl (fun _ _ => rfl) (by simp [Act.eval, Act.put]) (CP59.out _) ?_; rintro e w59 ⟨rfl, rfl⟩; refine ⟨_, rfl, ?_⟩))
            all_goals
              have HSA : Hid (GoodB b w.heap.size w.heap.size g m m _ w (w3.setCell ⟨g, v, none⟩ (.int .i64 (bits .or .i64 (x59 : Int) (P59 : Int)))).drew) := Lib.hid ((HS3.out.set v (bits .or .i64 (x59 : Int) (P59 : Int)) (x59 ||| P59) HO59.out HX59.out (Nat.le_refl _) hbw hbw).keeps (Keeps.drew1 _))
              clear hc59 hf59 hx59 HO59 HX59 CP59
              go_upto_region 18 with fail
              generalize (w3.setCell ⟨g, v, none⟩ (.int .i64 (bits .or .i64 (x59 : Int) (P59 : Int)))).drew = wA at *
              obtain ⟨near69, hn69, hl69⟩ := HSA.out.near
              have hc69 := hn69.cell x (by omega)
              rw [il_getD _ _ _ (by omega)] at hc69
              have hf69 := hn69.frozen x
              have hx69 := hl69 x (by omega)
              have CP69 : Hid (∀ w, Calls Try.prog 66 #[.int .i64 (v : Nat)] w fun e w' => e = .returned (.int .i64 ((2 ^ v : Nat) : Int)) ∧ w = w') := Lib.hid (fun w => spower_any v w (by omega))
              generalize near69 x = x69 at *
              have HO69 := Lib.hid (bits_or x69 (2 ^ v) (by omega) (pow_lt63 _ (by omega)))
              have HX69 := Lib.hid (or_low (x := x69) (u := v) hx69 (by omega))
              clear hn69 hl69
              generalize 2 ^ v = P69 at *
              go_wp2_with fail
              go_region_law (first | (refine step_go 66 #[.tmp 69] #[3] rfl rfl (fun _ _ => rfl) (by simp [Act.eval, Act.put]) (CP69.out _) ?_; rintro e w69 ⟨rfl, rfl⟩; refine ⟨_, rfl, ?_⟩))
              all_goals
                have HSB : Hid (GoodB b w.heap.size w.heap.size g m m _ w (wA.setCell ⟨g, x, none⟩ (.int .i64 (bits .or .i64 (x69 : Int) (P69 : Int)))).drew) := Lib.hid ((HSA.out.set x (bits .or .i64 (x69 : Int) (P69 : Int)) (x69 ||| P69) HO69.out HX69.out (Nat.le_refl _) hbw hbw).keeps (Keeps.drew1 _))
                clear hc69 hf69 hx69 HO69 HX69 CP69
                go_wp2_with fail
                go_roundw
                case rel => exact ⟨v + 1, q + 1, by omega, by omega, by go_num, by omega, HSB⟩
                case measure => simp [intOf]; omega
        · obtain rfl : v = m := by omega
          have HS4 : Hid (GoodB b w.heap.size w.heap.size g v v q w wr) := HS
          have hq8 : q ≤ p + 8 := by omega
          clear HS hq
          go_wp2_with fail
          go_loopw [11] (fun i wi => ∃ (y q : Nat), y ≤ v ∧ i = .int .i64 y ∧ q ≤ p + 8 + 6 * y ∧ Hid (GoodB b w.heap.size w.heap.size g v v q w wi)) (fun i _ => v - (intOf i).toNat)
          case atStart => exact ⟨0, q, by omega, rfl, by omega, HS4⟩
          case round =>
            clear HS4 hq8
            obtain ⟨y, q, hy, rfl, hq, HS⟩ := hrel
            by_cases hlty : y < v
            · have hyi : (y : Int) < v := by omega
              go_wp2_with fail
              go_loopw [12] (fun i wi => ∃ (u q' : Nat), u ≤ y ∧ i = .int .i64 u ∧ q' ≤ q + u ∧ Hid (GoodB b w.heap.size w.heap.size g v v q' w wi)) (fun i _ => y - (intOf i).toNat)
              case atStart => exact ⟨0, q, by omega, rfl, by omega, HS⟩
              case round =>
                clear HS
                obtain ⟨u, q', hu, rfl, hq', HS⟩ := hrel
                by_cases hltu : u < y
                · have hui : (u : Int) < y := by omega
                  have hui2 : (u : Int) < v := by omega
                  by_cases e2 : kd = 2
                  · have hk2 : ((kd : Int) == 2) = true := by simp [e2]
                    have hk2' : (kd : Int) ≤ 2 := by omega
                    clear e2
                    obtain ⟨near100, hn100, hl100⟩ := HS.out.near
                    have hc100 := hn100.cell y (by omega)
                    rw [il_getD _ _ _ (by omega)] at hc100
                    have hf100 := hn100.frozen y
                    have hx100 := hl100 y (by omega)
                    have CP100 : Hid (∀ w, Calls Try.prog 66 #[.int .i64 (u : Nat)] w fun e w' => e = .returned (.int .i64 ((2 ^ u : Nat) : Int)) ∧ w = w') := Lib.hid (fun w => spower_any u w (by omega))
                    generalize near100 y = x100 at *
                    have HO100 := Lib.hid (bits_or x100 (2 ^ u) (by omega) (pow_lt63 _ (by omega)))
                    have HX100 := Lib.hid (or_low (x := x100) (u := u) hx100 (by omega))
                    clear hn100 hl100
                    generalize 2 ^ u = P100 at *
                    go_wp2_with fail
                    go_region_law (first | (refine step_go 66 #[.tmp 100] #[3] rfl rfl (fun _ _ => rfl) (by simp [Act.eval, Act.put]) (CP100.out _) ?_; rintro e w100 ⟨rfl, rfl⟩; refine ⟨_, rfl, ?_⟩))
                    all_goals
                      have HSA : Hid (GoodB b w.heap.size w.heap.size g v v _ w (wr.setCell ⟨g, y, none⟩ (.int .i64 (bits .or .i64 (x100 : Int) (P100 : Int)))).drew) := Lib.hid ((HS.out.set y (bits .or .i64 (x100 : Int) (P100 : Int)) (x100 ||| P100) HO100.out HX100.out (Nat.le_refl _) hbw hbw).keeps (Keeps.drew1 _))
                      clear hc100 hf100 hx100 HO100 HX100 CP100
                      go_upto_region 27 with fail
                      generalize (wr.setCell ⟨g, y, none⟩ (.int .i64 (bits .or .i64 (x100 : Int) (P100 : Int)))).drew = wA at *
                      obtain ⟨near110, hn110, hl110⟩ := HSA.out.near
                      have hc110 := hn110.cell u (by omega)
                      rw [il_getD _ _ _ (by omega)] at hc110
                      have hf110 := hn110.frozen u
                      have hx110 := hl110 u (by omega)
                      have CP110 : Hid (∀ w, Calls Try.prog 66 #[.int .i64 (y : Nat)] w fun e w' => e = .returned (.int .i64 ((2 ^ y : Nat) : Int)) ∧ w = w') := Lib.hid (fun w => spower_any y w (by omega))
                      generalize near110 u = x110 at *
                      have HO110 := Lib.hid (bits_or x110 (2 ^ y) (by omega) (pow_lt63 _ (by omega)))
                      have HX110 := Lib.hid (or_low (x := x110) (u := y) hx110 (by omega))
                      clear hn110 hl110
                      generalize 2 ^ y = P110 at *
                      go_wp2_with fail
                      go_region_law (first | (refine step_go 66 #[.tmp 110] #[3] rfl rfl (fun _ _ => rfl) (by simp [Act.eval, Act.put]) (CP110.out _) ?_; rintro e w110 ⟨rfl, rfl⟩; refine ⟨_, rfl, ?_⟩))
                      all_goals
                        have HSB : Hid (GoodB b w.heap.size w.heap.size g v v _ w (wA.setCell ⟨g, u, none⟩ (.int .i64 (bits .or .i64 (x110 : Int) (P110 : Int)))).drew) := Lib.hid ((HSA.out.set u (bits .or .i64 (x110 : Int) (P110 : Int)) (x110 ||| P110) HO110.out HX110.out (Nat.le_refl _) hbw hbw).keeps (Keeps.drew1 _))
                        clear hc110 hf110 hx110 HO110 HX110 CP110
                        go_wp2_with fail
                        go_roundw
                        case rel => exact ⟨u + 1, q', by omega, by go_num, by omega, HSB⟩
                        case measure => simp [intOf]; omega
                  · have hk2 : ((kd : Int) == 2) = false := by simp; omega
                    by_cases e3 : 2 < kd
                    · have hk3 : (2 : Int) < kd := by omega
                      clear e2 e3
                      go_wp2_with fail
                      refine (pick_any b q' 4 _ HS.out.rd (by omega)).mono ?_
                      rintro e w3 ⟨z, rfl, hz, hR3, hG3⟩
                      have HS3 := Lib.hid (HS.out.gro' hG3 hR3 hbw)
                      clear hR3 hG3 HS hz
                      by_cases ez : z = 0
                      · subst ez
                        obtain ⟨near100, hn100, hl100⟩ := HS3.out.near
                        have hc100 := hn100.cell y (by omega)
                        rw [il_getD _ _ _ (by omega)] at hc100
                        have hf100 := hn100.frozen y
                        have hx100 := hl100 y (by omega)
                        have CP100 : Hid (∀ w, Calls Try.prog 66 #[.int .i64 (u : Nat)] w fun e w' => e = .returned (.int .i64 ((2 ^ u : Nat) : Int)) ∧ w = w') := Lib.hid (fun w => spower_any u w (by omega))
                        generalize near100 y = x100 at *
                        have HO100 := Lib.hid (bits_or x100 (2 ^ u) (by omega) (pow_lt63 _ (by omega)))
                        have HX100 := Lib.hid (or_low (x := x100) (u := u) hx100 (by omega))
                        clear hn100 hl100
                        generalize 2 ^ u = P100 at *
                        go_wp2_with fail
                        go_region_law (first | (refine step_go 66 #[.tmp 100] #[3] rfl rfl (fun _ _ => rfl) (by simp [Act.eval, Act.put]) (CP100.out _) ?_; rintro e w100 ⟨rfl, rfl⟩; refine ⟨_, rfl, ?_⟩))
                        all_goals
                          have HSA : Hid (GoodB b w.heap.size w.heap.size g v v _ w (w3.setCell ⟨g, y, none⟩ (.int .i64 (bits .or .i64 (x100 : Int) (P100 : Int)))).drew) := Lib.hid ((HS3.out.set y (bits .or .i64 (x100 : Int) (P100 : Int)) (x100 ||| P100) HO100.out HX100.out (Nat.le_refl _) hbw hbw).keeps (Keeps.drew1 _))
                          clear hc100 hf100 hx100 HO100 HX100 CP100
                          go_upto_region 27 with fail
                          generalize (w3.setCell ⟨g, y, none⟩ (.int .i64 (bits .or .i64 (x100 : Int) (P100 : Int)))).drew = wA at *
                          obtain ⟨near110, hn110, hl110⟩ := HSA.out.near
                          have hc110 := hn110.cell u (by omega)
                          rw [il_getD _ _ _ (by omega)] at hc110
                          have hf110 := hn110.frozen u
                          have hx110 := hl110 u (by omega)
                          have CP110 : Hid (∀ w, Calls Try.prog 66 #[.int .i64 (y : Nat)] w fun e w' => e = .returned (.int .i64 ((2 ^ y : Nat) : Int)) ∧ w = w') := Lib.hid (fun w => spower_any y w (by omega))
                          generalize near110 u = x110 at *
                          have HO110 := Lib.hid (bits_or x110 (2 ^ y) (by omega) (pow_lt63 _ (by omega)))
                          have HX110 := Lib.hid (or_low (x := x110) (u := y) hx110 (by omega))
                          clear hn110 hl110
                          generalize 2 ^ y = P110 at *
                          go_wp2_with fail
                          go_region_law (first | (refine step_go 66 #[.tmp 110] #[3] rfl rfl (fun _ _ => rfl) (by simp [Act.eval, Act.put]) (CP110.out _) ?_; rintro e w110 ⟨rfl, rfl⟩; refine ⟨_, rfl, ?_⟩))
                          all_goals
                            have HSB : Hid (GoodB b w.heap.size w.heap.size g v v _ w (wA.setCell ⟨g, u, none⟩ (.int .i64 (bits .or .i64 (x110 : Int) (P110 : Int)))).drew) := Lib.hid ((HSA.out.set u (bits .or .i64 (x110 : Int) (P110 : Int)) (x110 ||| P110) HO110.out HX110.out (Nat.le_refl _) hbw hbw).keeps (Keeps.drew1 _))
                            clear hc110 hf110 hx110 HO110 HX110 CP110
                            go_wp2_with fail
                            go_roundw
                            case rel => exact ⟨u + 1, q' + 1, by omega, by go_num, by omega, HSB⟩
                            case measure => simp [intOf]; omega
                      · have hz0 : ((z : Int) == 0) = false := by simp; omega
                        clear ez
                        go_wp2_with fail
                        go_roundw
                        case rel => exact ⟨u + 1, q' + 1, by omega, by go_num, by omega, HS3⟩
                        case measure => simp [intOf]; omega
                    · have hk3 : (kd : Int) ≤ 2 := by omega
                      clear e2 e3
                      go_wp2_with fail
                      go_roundw
                      case rel => exact ⟨u + 1, q', by omega, by go_num, by omega, HS⟩
                      case measure => simp [intOf]; omega
                · obtain rfl : u = y := by omega
                  go_wp2_with fail
                  go_roundw
                  case rel => exact ⟨u + 1, q', by omega, by go_num, by omega, HS⟩
                  case measure => simp [intOf]; omega
            · obtain rfl : y = v := by omega
              obtain ⟨near, hn1, hn2⟩ := HS.out.near
              have hgb : w.heap.size ≤ g := HS.out.g_lt.2
              have CN := Lib.hid (netOf_any b q y (some ⟨g, 0, none⟩) y near wr HS.out.rd (by omega) (by omega) (by omega) (il_ints hn1) (fun d off e => by cases e; omega) hn2)
              have HR0 := Lib.hid HS.out.r
              have HG0 := Lib.hid HS.out.gro
              clear hn1 hn2 HS
              go_wp2_with fail
              refine CN.out.mono ?_
              rintro e w4 ⟨m', q4, A, B, cA, cB, rfl, hN4, h1', h6', hR4, hq4, hG4⟩
              have hB4 := HR0.out.grown hG4 (by simp; omega)
              have HN4 := Lib.hid (hN4.mono (lo' := w.heap.size) HG0.out.size)
              have HG4 := Lib.hid (HG0.out.step hG4)
              have c0 : w4.cell? ⟨w.heap.size, 0, none⟩ = some (.slice none 0 0) := by rw [hB4.cell]; rfl
              have c1 : w4.cell? ⟨w.heap.size, 1, none⟩ = some (.slice none 0 0) := by rw [hB4.cell]; rfl
              have f0 := hB4.frozen 0
              have f1 := hB4.frozen 1
              have hR6 := hB4.set 0 (.slice A m' cA)
              clear hN4 hG4
              go_wp2_with fail
              have k1 := (hR6.set 1 (.slice B m' cB)).cell 0
              have k2 := (hR6.set 1 (.slice B m' cB)).cell 1
              refine bodyPost_ret (v := .agg #[.slice A m' cA, .slice B m' cB]) (by simp [results, Try.results75, go_sem, k1, k2]) rfl ⟨m', q4, A, B, cA, cB, rfl, ?_, h1', h6', (hR4.set_other (by omega) _).set_other (by omega) _, by omega, (HG4.out.setAbove (Nat.le_refl _) _).setAbove (Nat.le_refl _) _⟩
              exact (HN4.out.grown (grown_set _ _ _ _) hB4 (by decide) (by decide)).grown (grown_set _ _ _ _) hR6 (by decide) (by decide)
end Go.Proofs.Ytdjilgbcpdlkfaa
