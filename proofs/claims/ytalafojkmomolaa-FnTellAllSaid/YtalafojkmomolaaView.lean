/-
  The contracts of someView, setOf and the draws of views: whatever the code is, a view that lies in memory, its rows of numbers. Condition: a code of at most 2^40 bytes.
-/
import Derived.Test.YtalafojkmomolaaMuddy
import Derived.Test.YtalafojkmomolaaDraw
import Derived.Deep.CutBlock
import Derived.Deep.RegionHeld3
namespace Go.Proofs.Ytalafojkmomolaa
open Go.RowKit

theorem Gro.stepRows {b : Nat} {w0 w w' : World} {lo : Nat} {A : Option Addr} {n c : Nat} {L : List (List Int)} (h : Gro b w0 w) (hown : OwnRows w lo A n c L) (hb : w0.heap.size ≤ lo) (hg : w.grownBy w' (A.map (·.block))) : Gro b w0 w' := h.step' hown.choose_spec.1 hb hg
/-- A view that is being drawn: the box V, its rows; the result's box; the reader. -/
def ViewSt (b lo V p : Nat) (w wx : World) : Prop :=
  ∃ (W n q : Nat) (A : Option Addr) (c : Nat) (L : List (List Int)), Blk wx lo 25 #[.int .i64 0, .slice none 0 0] ∧ Blk wx V 25 #[.int .i64 W, .slice A n c] ∧ OwnRows wx lo A n c L ∧
    W ≤ 16 ∧ 1 ≤ n ∧ n ≤ 4 ∧ (∀ i, i < n → 1 ≤ (L.getD i []).length ∧ (L.getD i []).length ≤ 16) ∧ Rd wx b q ∧ q ≤ p ∧ Gro b w wx
def ViewEnd (b lo V p : Nat) (w wx : World) : Prop :=
  ∃ (W : Int) (n q : Nat) (A : Option Addr) (c : Nat) (L : List (List Int)), Blk wx lo 25 #[.int .i64 0, .slice none 0 0] ∧ Blk wx V 25 #[.int .i64 W, .slice A n c] ∧ OwnRows wx lo A n c L ∧
    -1 ≤ W ∧ W ≤ 17 ∧ n ≤ 4 ∧ (∀ i, i < n → (L.getD i []).length ≤ 16) ∧ Rd wx b q ∧ q ≤ p ∧ Gro b w wx
/-- What a drawn view is: its rows lie in new memory. -/
def Viewed (b p : Nat) (w : World) (e : Ending) (w' : World) : Prop :=
  ∃ (W : Int) (n q : Nat) (A : Option Addr) (c : Nat) (L : List (List Int)), e = .returned (.agg #[.int .i64 W, .slice A n c]) ∧ OwnRows w' w.heap.size A n c L ∧
    -1 ≤ W ∧ W ≤ 17 ∧ n ≤ 4 ∧ (∀ i, i < n → (L.getD i []).length ≤ 16) ∧ Rd w' b q ∧ q ≤ p + 110 ∧ Gro b w w'
theorem viewSt_put {b lo V p q W n c : Nat} {w wx : World} {A : Option Addr} {L : List (List Int)} {u v : Value} (hb : b < lo) (hlV : lo < V) (hw : lo = w.heap.size) (hB : Blk wx lo 25 #[.int .i64 0, .slice none 0 0]) (hV : Blk wx V 25 #[u, v]) (hO : OwnRows wx lo A n c L)
    (h1 : W ≤ 16) (h2 : 1 ≤ n) (h3 : n ≤ 4) (h4 : ∀ i, i < n → 1 ≤ (L.getD i []).length ∧ (L.getD i []).length ≤ 16) (hR : Rd wx b q) (hq : q ≤ p) (hG : Gro b w wx) :
    ViewSt b lo V p w ((wx.setCell ⟨V, 0, none⟩ (.int .i64 W)).setCell ⟨V, 1, none⟩ (.slice A n c)) := by
  have k1 := hV.set 0 (.int .i64 W)
  refine ⟨W, n, q, A, c, L, (hB.set_other _ _ (by simp; omega)).set_other _ _ (by simp; omega), k1.set 1 _, (hO.grown (grown_set _ _ _ _) hV (by decide) (by decide)).grown (grown_set _ _ _ _) k1 (by decide) (by decide), h1, h2, h3, h4,
    (hR.set_other (by omega) _).set_other (by omega) _, hq, ?_⟩
  subst hw
  exact ⟨hG.os, hG.tape, hG.output, Nat.le_trans hG.size (by simp [World.setCell]), fun k hk hn => by
    rw [Below.heap_setCell _ _ _ _ (by simp; omega), Below.heap_setCell _ _ _ _ (by simp; omega)]
    exact hG.block k hk hn⟩
set_option maxRecDepth 100000 in
set_option maxHeartbeats 4000000 in
theorem someView_any (b p : Nat) (w : World) (h : Rd w b p) (hp : p ≤ 1000) :
    Calls Try.prog 31 #[.pointer (some ⟨b, 0, none⟩)] w (Viewed b p w) := by
  have HR := Lib.hid h
  clear h
  go_enter Try.func31, Try.ntmps31
  go_wp2_with fail
  refine (one_lit b p [4, 6, 8, 3, 2, 1, 12] 1 12 _ _ _ _ (by decide) (by decide) (by decide) (by omega) (HR.out.gro (Keeps.alloc _ _)) rfl (by simp) rfl).mono ?_
  rintro e w1 ⟨W, rfl, hW1, hW2, hR1, hG1⟩
  have hbw := HR.out.lt
  obtain ⟨W, rfl⟩ := Int.eq_ofNat_of_zero_le (show 0 ≤ W by omega)
  have hB1 : Blk w1 w.heap.size 25 #[.int .i64 0, .slice none 0 0] := (((Blk.new w _ _).keeps (Keeps.alloc _ _))).grown hG1 (by simp; omega)
  go_wp2_with fail
  refine (pick_any b (p + 1) 6 _ (hR1.gro (Keeps.alloc _ _)) (by omega)).mono ?_
  rintro e w2 ⟨kind, rfl, hkind, hR2, hG2⟩
  have hz1 := hG1.size
  simp only [World.size_alloc] at hz1
  have hB2 : Blk w2 w.heap.size 25 #[.int .i64 0, .slice none 0 0] := (hB1.keeps (Keeps.alloc _ _)).grown hG2 (by simp; omega)
  have hV2 : Blk w2 w1.heap.size 25 #[.int .i64 W, .slice none 0 0] := (Blk.new w1 _ _).grown hG2 (by simp; omega)
  have hGG2 : Gro b w w2 := ((((Gro.ofKeeps (Keeps.alloc w _)).step (Gro.ofKeeps (Keeps.alloc _ _))).step hG1).step (Gro.ofKeeps (Keeps.alloc _ _))).step hG2
  have hVl : w.heap.size < w1.heap.size := by omega
  clear hG1 hR1 hB1 hG2
  generalize hV : w1.heap.size = V at *
  clear hV hz1
  go_upto_block 0 with fail
  go_cut [] (fun wx => ViewSt b w.heap.size V (p + 100) w wx)
  case first =>
    have f0 := hV2.frozen 0
    have f1 := hV2.frozen 1
    by_cases k0 : kind = 0
    · subst k0
      go_wp2_with fail
      refine (pick_any b (p + 2) 3 _ hR2 (by omega)).mono ?_
      rintro e w3 ⟨x, rfl, hx, hR3, hG3⟩
      go_wp2_with fail
      rw [show (1 : Int) + (x : Int) = ((1 + x : Nat) : Int) from by omega]
      refine (muddy_any (1 + x) _ (by omega)).mono ?_
      rintro e w4 ⟨A, c, rfl, hO, hK4⟩
      have hp2 : 2 ^ (1 + x) ≤ 16 := Nat.le_trans (Nat.pow_le_pow_right (by omega) (show 1 + x ≤ 4 by omega)) (by omega)
      have hp1 := Nat.two_pow_pos (1 + x)
      have HLEN : Hid (∀ i, i < 1 + x → ((muddyLL (1 + x) (1 + x)).getD i []).length = 2 ^ (1 + x)) := Lib.hid (fun i hi => by simp [muddyLL, muddyL, hi])
      generalize 2 ^ (1 + x) = N at *
      have hV4 := (hV2.grown hG3 (by simp; omega)).keeps hK4
      have hB4 := (hB2.grown hG3 (by simp; omega)).keeps hK4
      have c0 : w4.cell? ⟨V, 0, none⟩ = some (.int .i64 W) := by rw [hV4.cell]; rfl
      have c1 : w4.cell? ⟨V, 1, none⟩ = some (.slice none 0 0) := by rw [hV4.cell]; rfl
      have f40 := hV4.frozen 0
      have f41 := hV4.frozen 1
      have hGG3 := hGG2.step hG3
      have hGG4 := hGG3.step (Gro.ofKeeps hK4)
      have hO4 := hO.mono (lo' := w.heap.size) hGG3.size
      go_wp2_with fail
      go_meet
      exact viewSt_put hbw hVl rfl hB4 hV4 hO4 hp2 (by omega) (by omega) (fun i hi => by rw [HLEN.out i hi]; omega) (hR3.gro hK4) (by omega) hGG4
    · by_cases k1 : kind = 1
      · subst k1
        go_wp2_with fail
        refine (pick_any b (p + 2) 9 _ hR2 (by omega)).mono ?_
        rintro e w3 ⟨x, rfl, hx, hR3, hG3⟩
        go_wp2_with fail
        rw [show (1 : Int) + (x : Int) = ((1 + x : Nat) : Int) from by omega]
        refine (lettersOf_any (1 + x) _ (by omega)).mono ?_
        rintro e w4 ⟨A, c, L, rfl, hO, hL, hK4⟩
        have hV4 := (hV2.grown hG3 (by simp; omega)).keeps hK4
        have hB4 := (hB2.grown hG3 (by simp; omega)).keeps hK4
        have c0 : w4.cell? ⟨V, 0, none⟩ = some (.int .i64 W) := by rw [hV4.cell]; rfl
        have c1 : w4.cell? ⟨V, 1, none⟩ = some (.slice none 0 0) := by rw [hV4.cell]; rfl
        have f40 := hV4.frozen 0
        have f41 := hV4.frozen 1
        have hGG3 := hGG2.step hG3
        have hGG4 := hGG3.step (Gro.ofKeeps hK4)
        have hO4 := hO.mono (lo' := w.heap.size) hGG3.size
        have HL := Lib.hid hL
        clear hL
        go_wp2_with fail
        go_meet
        rw [show (1 : Int) + (x : Int) + 1 = ((1 + x + 1 : Nat) : Int) from by omega]
        exact viewSt_put hbw hVl rfl hB4 hV4 hO4 (by omega) (by omega) (by omega) (fun i hi => by rw [HL.out i hi]; omega) (hR3.gro hK4) (by omega) hGG4
      · have k0' : ((kind : Int) == 0) = false := by simp; omega
        have k1' : ((kind : Int) == 1) = false := by simp; omega
        clear k0 k1
        go_wp2_with fail
        refine (one_lit b (p + 2) [2, 3, 1, 4] 1 4 _ _ _ _ (by decide) (by decide) (by decide) (by omega) hR2 rfl (by simp) rfl).mono ?_
        rintro e w3 ⟨N, rfl, hN1, hN2, hR3, hG3⟩
        obtain ⟨N, rfl⟩ := Int.eq_ofNat_of_zero_le (show 0 ≤ N by omega)
        have hV3 := (hV2.keeps (Keeps.alloc _ _)).grown hG3 (by simp; omega)
        have hB3 := (hB2.keeps (Keeps.alloc _ _)).grown hG3 (by simp; omega)
        have hGG3 := (hGG2.step (Gro.ofKeeps (Keeps.alloc _ _))).step hG3
        clear hV2 hB2 hGG2 hR2 hG3 f0 f1
        go_wp2_with fail
        go_loopg [] N (fun gk wr => ∃ (k q c : Nat) (A : Option Addr) (L : List (List Int)), Hid (k + gk = N) ∧ k ≤ N ∧ Blk wr w.heap.size 25 #[.int .i64 0, .slice none 0 0] ∧ Blk wr V 25 #[.int .i64 W, .slice A k c] ∧ OwnRows wr w.heap.size A k c L ∧ Hid (∀ i, i < k → (L.getD i []).length = W) ∧ Rd wr b q ∧ q ≤ p + 3 + 14 * k ∧ Gro b w wr)
        case atStart => exact ⟨0, p + 3, 0, none, [], Lib.hid (by omega), by omega, hB3, hV3, OwnRows.nil _ _, Lib.hid (fun i hi => absurd hi (Nat.not_lt_zero _)), hR3, by omega, hGG3⟩
        case round =>
          obtain ⟨k, q, c, A, L, HK, hk, hBr, hVr, hOr, HLr, hRr, hq, hGr⟩ := hrel
          have d0 : wr.cell? ⟨V, 0, none⟩ = some (.int .i64 W) := by rw [hVr.cell]; rfl
          have d1 : wr.cell? ⟨V, 1, none⟩ = some (.slice A k c) := by rw [hVr.cell]; rfl
          have zV := hVr.lt
          by_cases hlt : k < N
          · go_wp2_with fail
            refine (pick_any b q _ _ (hRr.gro (Keeps.alloc _ _)) (by omega)).mono ?_
            rintro e w4 ⟨x, rfl, hx, hR4, hG4⟩
            have hOw4 : OwnInts w4 wr.heap.size (some ⟨wr.heap.size, 0, none⟩) 0 0 [] := by
              obtain ⟨cs, hbb⟩ := hRr.blk
              exact (OwnInts.made wr _ (Nat.le_refl _)).grown hG4 (hbb.keeps (Keeps.alloc _ _)) (by decide)
            have hG4' : Gro b wr w4 := (Gro.ofKeeps (Keeps.alloc _ _)).step hG4
            obtain ⟨cs, hbb⟩ := hRr.blk
            have HBB := Lib.hid hbb
            clear hbb
            have hx' : (x : Int) < W := by omega
            go_wp2_with fail
            obtain ⟨wo, rfl⟩ : ∃ wo : World, wo = wr := ⟨_, rfl⟩
            obtain ⟨go, rfl⟩ : ∃ go : Nat, go = gk := ⟨_, rfl⟩
            go_loopg [5, 7] W (fun gj s i wr => ∃ (j qq d : Nat) (a : Option Addr) (l : List Int), Hid (j + gj = W) ∧ j ≤ W ∧ s = .slice a j d ∧ i = .int .i64 j ∧ OwnInts wr wo.heap.size a j d l ∧ Rd wr b qq ∧ qq ≤ q + 1 + j ∧ Gro b wo wr)
            case atStart => exact ⟨0, q + 1, 0, _, [], Lib.hid (by omega), by omega, rfl, rfl, hOw4, hR4, by omega, hG4'⟩
            case round =>
              obtain ⟨j, qq, d, a, l, HJ, hj, rfl, rfl, hOj, hRj, hqq, hGj⟩ := hrel
              have hVj := hVr.grown hGj (by simp; omega)
              have e0 : wr.cell? ⟨V, 0, none⟩ = some (.int .i64 W) := by rw [hVj.cell]; rfl
              by_cases hjt : j < W
              · go_wp2_with fail
                refine (pick_any b qq _ _ hRj (by omega)).mono ?_
                rintro e w5 ⟨y, rfl, hy, hR5, hG5⟩
                have hO5 : OwnInts w5 wo.heap.size a j d l := by
                  obtain ⟨cs, hbb⟩ := hRj.blk
                  exact hOj.grown hG5 hbb (by decide)
                have hs5 : wo.heap.size ≤ w5.heap.size := Nat.le_trans hGj.size hG5.size
                go_wp2_with (first | (at_builtin; refine wp_app_int rfl _ _ rfl wo.heap.size a j d l _ rfl hO5 _ rfl (by omega) hs5 ?_; intro g d' w6 hO6 hg6))
                have hR6 : Rd w6 b (qq + 1) := hR5.grown hg6 (fun d hd => Nat.lt_of_lt_of_le (Nat.lt_of_lt_of_le hbw hGr.size) (own_block hO5 d hd).1)
                have hG6 : Gro b wo w6 := (hGj.step hG5).step' hO5 (Nat.le_refl _) hg6
                go_roundg (gk - 1)
                case measure => have := HJ.out; omega
                case rel => exact ⟨j + 1, qq + 1, d', _, _, Lib.hid (by have := HJ.out; omega), by omega, rfl, by go_num, hO6, hR6, by omega, hG6⟩
              · have : j = W := by omega
                subst this
                have hBj := hBr.grown hGj (by simp; omega)
                have hOOj := (by
                  obtain ⟨cs, hbb⟩ := hRr.blk
                  exact hOr.grown hGj hbb (by decide) (by decide) : OwnRows wr w.heap.size A k c L)
                have e1 : wr.cell? ⟨V, 1, none⟩ = some (.slice A k c) := by rw [hVj.cell]; rfl
                have hzz : w.heap.size ≤ wr.heap.size := Nat.le_trans hGr.size hGj.size
                go_wp2_with (first | (at_builtin; refine wp_app_row rfl _ _ rfl w.heap.size A k c L _ rfl hOOj wo.heap.size a j d l hOj hGr.size rfl (by omega) hzz ?_; intro g c' w6 hO6 hg6; have hV6 := hOOj.blk hg6 hVj (by decide); have d61 : w6.cell? ⟨V, 1, none⟩ = some (.slice A k c) := (by rw [hV6.cell]; rfl); have f61 := hV6.frozen 1))
                have hB6 := hOOj.blk hg6 hBj (by decide)
                have hR6 : Rd w6 b qq := hRj.grown hg6 (fun d hd => Nat.lt_of_lt_of_le hbw (hOOj.blo d hd))
                have hG6 : Gro b w w6 := (hGr.step hGj).stepRows hOOj (Nat.le_refl _) hg6
                go_roundg (go - 1)
                case measure => have := HK.out; omega
                case rel =>
                  refine ⟨k + 1, qq, c', _, _, Lib.hid (by have := HK.out; omega), by omega, hB6.set_other _ _ (by simp; omega), hV6.set 1 _, hO6.grown (grown_set _ _ _ _) hV6 (by decide) (by decide), Lib.hid (fun i hi => ?_), hR6.set_other (by omega) _, by omega, hG6.setAbove (by omega) _⟩
                  have hLl := hOr.len
                  rw [List.getD_eq_getElem?_getD]
                  by_cases hik : i = k
                  · subst hik
                    rw [List.getElem?_append_right (by omega), hLl]
                    simpa using hOj.len
                  · rw [List.getElem?_append_left (by omega), ← List.getD_eq_getElem?_getD]
                    exact HLr.out i (by omega)
          · have : k = N := by omega
            subst this
            go_wp2_with fail
            go_meet
            exact ⟨W, k, q, A, c, L, hBr, hVr, hOr, by omega, by omega, by omega, fun i hi => by rw [HLr.out i hi]; omega, hRr, by omega, hGr⟩
  case rest =>
    clear hV2 hB2 hGG2 hR2
    obtain ⟨W', n, q, A, c, L, hB, hV, hO, hW', hn1, hn4, hL, hR, hq, hG⟩ := hcut
    have HL := Lib.hid hL
    clear hL
    go_wp2_with fail
    refine (pick_any b q 30 _ hR (by omega)).mono ?_
    rintro e w3 ⟨k, rfl, hk, hR3, hG3⟩
    have hV3 := hV.grown hG3 (by simp; omega)
    have hB3 := hB.grown hG3 (by simp; omega)
    have hO3 := (by
      obtain ⟨cs, hbb⟩ := hR.blk
      exact hO.grown hG3 hbb (by decide) (by decide) : OwnRows w3 w.heap.size A n c L)
    have hG3' := hG.step hG3
    have zV := hV3.lt
    clear hV hB hO hG3 hG hR
    have c0 : w3.cell? ⟨V, 0, none⟩ = some (.int .i64 W') := by rw [hV3.cell]; rfl
    have c1 : w3.cell? ⟨V, 1, none⟩ = some (.slice A n c) := by rw [hV3.cell]; rfl
    have f0 := hV3.frozen 0
    have f1 := hV3.frozen 1
    go_upto_block 5 with fail
    go_cut [] (fun wx => ViewEnd b w.heap.size V (p + 110) w wx)
    case first =>
      by_cases k0 : k = 0
      · subst k0
        go_wp2_with fail
        refine (one_lit b (q + 1) [0, 17, 5] 0 17 _ _ _ _ (by decide) (by decide) (by decide) (by omega) hR3 rfl (by simp) rfl).mono ?_
        rintro e w4 ⟨W2, rfl, hW1, hW2, hR4, hG4⟩
        have hV4 := (hV3.keeps (Keeps.alloc _ _)).grown hG4 (by simp; omega)
        have hB4 := (hB3.keeps (Keeps.alloc _ _)).grown hG4 (by simp; omega)
        have hO4 := (by
          obtain ⟨cs, hbb⟩ := hR3.blk
          exact (hO3.keeps (Keeps.alloc _ _)).grown hG4 (hbb.keeps (Keeps.alloc _ _)) (by decide) (by decide) : OwnRows w4 w.heap.size A n c L)
        have hG4' := (hG3'.step (Gro.ofKeeps (Keeps.alloc _ _))).step hG4
        have c40 : w4.cell? ⟨V, 0, none⟩ = some (.int .i64 W') := by rw [hV4.cell]; rfl
        have f40 := hV4.frozen 0
        go_wp2_with fail
        go_meet
        exact ⟨W2, n, q + 2, A, c, L, hB4.set_other _ _ (by simp; omega), hV4.set 0 _, hO4.grown (grown_set _ _ _ _) hV4 (by decide) (by decide), by omega, by omega, hn4, fun i hi => (HL.out i hi).2, hR4.set_other (by omega) _, by omega, hG4'.setAbove (by omega) _⟩
      · by_cases k1 : k = 1
        · subst k1
          obtain ⟨g, d, m, kk, cur, cur', rfl, hgb, hgc, hm, hdb, hdlo, z, hdc⟩ := hO3.first hn1 (HL.out 0 (by omega)).1
          have hgV : g ≠ V := blk_ne hgb hV3 (by decide)
          have hdV : d ≠ V := blk_ne hdb hV3 (by decide)
          have hdg : d ≠ g := blk_ne hdb hgb (by decide)
          obtain ⟨csb, hbb⟩ := hR3.blk
          have hgb' : g ≠ b := blk_ne hgb hbb (by decide)
          have hdb' : d ≠ b := blk_ne hdb hbb (by decide)
          have hVb : V ≠ b := by omega
          have hm0 : 0 < m := by omega
          have hn0 : 0 < n := by omega
          have fd := hdb.frozen 0
          have zg := hgb.lt
          have zd := hdb.lt
          have hone : ∀ x : Int, x ∈ [(-1 : Int), (W' : Int)] → -1 ≤ x ∧ x ≤ 16 := fun x hx => by
            simp at hx
            rcases hx with rfl | rfl <;> omega
          have HONE := Lib.hid hone
          clear hone
          go_wp2_with fail
          go_region_held3 (fun w' => w'.cell? ⟨V, 0, none⟩ = some (.int .i64 W') ∧ w'.cell? ⟨V, 1, none⟩ = some (.slice (some ⟨g, 0, none⟩) n c) ∧ w'.cell? ⟨g, 0, none⟩ = some (.slice (some ⟨d, 0, none⟩) m kk)) (first | exact ⟨hG5.cell g0 hVb, hG5.cell g1 hVb, hG5.cell g2 hgb'⟩ | go_keep) (first | (go_at_call 48; obtain ⟨g0, g1, g2⟩ : _ ∧ _ ∧ _ := (by assumption); refine (one_lit_d b (q + 1) [-1, (W' : Int)] (-1) 16 _ _ _ _ HONE.out (by simp) (by simp) (by omega) hR3 rfl rfl rfl).mono ?_; rintro e w5 ⟨x, rfl, hx1, hx2, hR5, hG5⟩; have hd5 := hG5.cell (cell_keeps ((Keeps.alloc _ _).step (Keeps.drew1 _)) hdc) hdb'; have fd5 := (hdb.keeps ((Keeps.alloc _ (.cells #[.int .i64 (-1), .int .i64 W'] 3)).step (Keeps.drew1 _))).grown hG5 (by simp; omega) |>.frozen 0))
          go_wp2_with fail
          go_meet
          have kk5 : Keeps w3 (w3.alloc (.cells #[.int .i64 (-1), .int .i64 W'] 3)).drew := (Keeps.alloc _ _).step (Keeps.drew1 _)
          have hV5 := (hV3.keeps kk5).grown hG5 (by simp; omega)
          have hB5 := (hB3.keeps kk5).grown hG5 (by simp; omega)
          have hO5 := (hO3.keeps kk5).grown hG5 (hbb.keeps kk5) (by decide) (by decide)
          have hdb5 := (hdb.keeps kk5).grown hG5 (by simp; omega)
          have hdw : w.heap.size ≤ d := hdlo
          obtain ⟨L', hO6, hL6⟩ := hO5.setElem hdb5 0 x
          exact ⟨W', n, q + 2, _, c, L', hB5.set_other _ _ (blk_ne hB5 hdb5 (by decide)), hV5.set_other _ _ (fun e => hdV e.symm), hO6, by omega, by omega, hn4, fun i hi => by rw [hL6 i hi]; exact (HL.out i hi).2, hR5.set_other (by omega) _, by omega, ((hG3'.step (Gro.ofKeeps kk5)).step hG5).setAbove hdw _⟩
        · by_cases k2 : k = 2
          · subst k2
            obtain ⟨g, d, m, kk, cur, cur', rfl, hgb, hgc, hm, hdb, hdlo, hdc⟩ := hO3.first hn1 (HL.out 0 (by omega)).1
            go_wp2_with fail
            go_meet
            exact ⟨W', 0, q + 1, _, c, [], hB3.set_other _ _ (by simp; omega), hV3.set 1 _, hO3.cut0.grown (grown_set _ _ _ _) hV3 (by decide) (by decide), by omega, by omega, by omega, fun i hi => absurd hi (Nat.not_lt_zero _), hR3.set_other (by omega) _, by omega, hG3'.setAbove (by omega) _⟩
          · have k0' : ((k : Int) == 0) = false := by simp; omega
            have k1' : ((k : Int) == 1) = false := by simp; omega
            have k2' : ((k : Int) == 2) = false := by simp; omega
            go_wp2_with fail
            go_meet
            exact ⟨W', n, q + 1, A, c, L, hB3, hV3, hO3, by omega, by omega, hn4, fun i hi => (HL.out i hi).2, hR3, by omega, hG3'⟩
    case rest =>
      clear hV3 hB3 hO3 hR3 hG3' zV c0 c1 f0 f1
      obtain ⟨W2, n2, q2, A2, c2, L2, hB, hV, hO, hW1, hW2, hn4, hL, hR, hq2, hG⟩ := hcut
      have HL2 := Lib.hid hL
      clear hL
      have c10 : wc.cell? ⟨V, 0, none⟩ = some (.int .i64 W2) := by rw [hV.cell]; rfl
      have c11 : wc.cell? ⟨V, 1, none⟩ = some (.slice A2 n2 c2) := by rw [hV.cell]; rfl
      have c00 : wc.cell? ⟨w.heap.size, 0, none⟩ = some (.int .i64 0) := by rw [hB.cell]; rfl
      have c01 : wc.cell? ⟨w.heap.size, 1, none⟩ = some (.slice none 0 0) := by rw [hB.cell]; rfl
      have f00 := hB.frozen 0
      have f01 := hB.frozen 1
      go_wp2
      have k1 := hB.set 0 (.int .i64 W2)
      refine bodyPost_ret (v := .agg #[.int .i64 W2, .slice A2 n2 c2]) (by simp [results, Try.results31, go_sem, c00, c01]) rfl ⟨W2, n2, q2, A2, c2, L2, rfl, ?_, hW1, hW2, hn4, HL2.out, (hR.set_other hbw _).set_other hbw _, hq2, (hG.setAbove (Nat.le_refl _) _).setAbove (Nat.le_refl _) _⟩
      exact (hO.grown (grown_set _ _ _ _) hB (by decide) (by decide)).grown (grown_set _ _ _ _) k1 (by decide) (by decide)
end Go.Proofs.Ytalafojkmomolaa
