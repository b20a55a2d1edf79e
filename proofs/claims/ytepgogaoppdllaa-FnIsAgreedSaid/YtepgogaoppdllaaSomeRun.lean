/-
  The contract of someRun: whatever the code is, a run that lies in new memory. Condition: at most a thousand picks so far.
-/
import Derived.Test.YtepgogaoppdllaaStopsOwn
import Derived.Test.YtepgogaoppdllaaDraw
import Derived.Deep.CutBlock
import Derived.Deep.DeepCutAuto
import Derived.Deep.RegionHeld3
import Derived.Deep.RegionLaw
import Derived.Test.YtepgogaoppdllaaStep
import Derived.Deep.DrawnRows
namespace Go.Proofs.Ytepgogaoppdllaa
open Go.RowKit
attribute [local go_sem ↓] Go.wp_at_zero Go.wp_at_succ

/-- A run that is being drawn: the result's box lo, the box V, its inputs and stops, the reader. -/
def RunSt (b lo V k m q : Nat) (w wx : World) : Prop :=
  ∃ (A S : Option Addr) (c d : Nat) (l zs : List Int), Blk wx lo 26 #[.slice none 0 0, .slice none 0 0] ∧ Blk wx V 26 #[.slice A k c, .slice S m d] ∧ OwnInts wx lo A k c l ∧ OwnStops wx lo S m d zs ∧ Rd wx b q ∧ Gro b w wx
/-- What a drawn run is: it lies in new memory. -/
def RunDrawn (b p : Nat) (w : World) (e : Ending) (w' : World) : Prop :=
  ∃ (n m q : Nat) (A S : Option Addr) (c d : Nat) (l zs : List Int), e = .returned (.agg #[.slice A n c, .slice S m d]) ∧ OwnInts w' w.heap.size A n c l ∧ OwnStops w' w.heap.size S m d zs ∧ n ≤ 4 ∧ m ≤ 5 ∧ Rd w' b q ∧ q ≤ p + 40 ∧ Gro b w w'
theorem own_gro {w w' : World} {lo b n c : Nat} {A : Option Addr} {l : List Int} (h : OwnInts w lo A n c l) (g : Gro b w w') {p : Nat} (hr : Rd w b p) : OwnInts w' lo A n c l := by
  obtain ⟨cs, hb⟩ := hr.blk
  exact h.grown g hb (by decide)
theorem ownS_gro {w w' : World} {lo b m d : Nat} {S : Option Addr} {zs : List Int} (h : OwnStops w lo S m d zs) (g : Gro b w w') {p : Nat} (hr : Rd w b p) : OwnStops w' lo S m d zs := by
  obtain ⟨cs, hb⟩ := hr.blk
  exact h.grown g hb (by decide)

theorem blk_ne'' {w : World} {lo g n c b : Nat} {l : List Int} {T : TypeId} {cs : Array Value} (h : OwnInts w lo (some ⟨g, 0, none⟩) n c l) (hb : Blk w b T cs) (hT : T ≠ 3) : b ≠ g := fun e => own_other h hb hT g rfl (by rw [e])
theorem stops_ne {w : World} {lo g n c b : Nat} {l : List Int} {T : TypeId} {cs : Array Value} (h : OwnStops w lo (some ⟨g, 0, none⟩) n c l) (hb : Blk w b T cs) (hT : T ≠ 65) : b ≠ g := fun e => own_other h hb hT g rfl (by rw [e])
set_option maxRecDepth 100000 in
set_option maxHeartbeats 20000000 in
theorem someRun_any (b p : Nat) (w : World) (h : Rd w b p) (hp : p ≤ 1000) :
    Calls Try.prog 42 #[.pointer (some ⟨b, 0, none⟩)] w (RunDrawn b p w) := by
  have HR := Lib.hid h
  clear h
  have hbw := HR.out.lt
  go_enter Try.func42, Try.ntmps42
  go_wp2_with fail
  refine (one_lit b p [3, 4, 3, 2, 1] 1 4 _ _ _ _ (by decide) (by decide) (by decide) (by omega) ((HR.out.gro (Keeps.alloc _ _)).gro (Keeps.alloc _ _)) rfl (by simp) rfl).mono ?_
  rintro e w1 ⟨N, rfl, hN1, hN2, hR1, hG1⟩
  obtain ⟨N, rfl⟩ := Int.eq_ofNat_of_zero_le (show 0 ≤ N by omega)
  have hB1 : Blk w1 w.heap.size 26 #[.slice none 0 0, .slice none 0 0] := (((Blk.new w _ _).keeps (Keeps.alloc _ _)).keeps (Keeps.alloc _ _)).grown hG1 (by simp; omega)
  have hV1 : Blk w1 (w.heap.size + 1) 26 #[.slice none 0 0, .slice none 0 0] := ((blk_at (by simp) (Blk.new _ _ _)).keeps (Keeps.alloc _ _)).grown hG1 (by simp; omega)
  have hGG1 : Gro b w w1 := ((((Gro.ofKeeps (Keeps.alloc w _)).step (Gro.ofKeeps (Keeps.alloc _ _)))).step (Gro.ofKeeps (Keeps.alloc _ _))).step hG1
  clear hG1
  go_wp2_with fail
  go_loopg [] N (fun gk wr => ∃ (k q : Nat), Hid (k + gk = N) ∧ k ≤ N ∧ q ≤ p + 1 + k ∧ RunSt b w.heap.size (w.heap.size + 1) k 0 q w wr)
  case atStart => exact ⟨0, p + 1, Lib.hid (by omega), by omega, by omega, none, none, 0, 0, [], [], hB1, hV1, OwnInts.nil _ _, OwnStops.nil _ _, hR1, hGG1⟩
  case round =>
    clear hB1 hV1 hGG1 hR1
    obtain ⟨k, q, HK, hk, hq, A, S, c, d, l, zs, hB, hV, hO, hS, hR, hG⟩ := hrel
    have d0 : wr.cell? ⟨w.heap.size + 1, 0, none⟩ = some (.slice A k c) := by rw [hV.cell]; rfl
    have f0 := hV.frozen 0
    have zV := hV.lt
    by_cases hlt : k < N
    · have hlt' : (k : Int) < N := by omega
      have HB := Lib.hid hB
      have HV := Lib.hid hV
      have HO := Lib.hid hO
      have HS := Lib.hid hS
      have HRd := Lib.hid hR
      clear hB hV hO hS hR
      go_wp2_with fail
      go_region_law (first | (refine step_go 73 #[.tmp 17, .const (.int .i64 4)] #[52, 3] rfl rfl (fun _ _ => rfl) (by simp [Act.eval, Act.put]) (pick_any b q 4 _ (HRd.out.gro (Keeps.drew1 _)) (by omega)) ?_; rintro e w4 ⟨x, rfl, hx, hR4, hG4⟩; refine ⟨_, rfl, ?_⟩; have hO4 := own_gro (HO.out.keeps (Keeps.drew1 _)) hG4 (HRd.out.gro (Keeps.drew1 _)); have hV4 := (HV.out.keeps (Keeps.drew1 _)).grown hG4 (by simp; omega); have hz4 : w.heap.size ≤ (w4.alloc (.cells #[.int .i64 x] 3)).heap.size := Nat.le_trans (Nat.le_trans hG.size hG4.size) (Keeps.alloc w4 _).size; have hO5 := hO4.keeps (Keeps.alloc w4 (.cells #[.int .i64 x] 3)); have hV5 := hV4.keeps (Keeps.alloc w4 (.cells #[.int .i64 x] 3)); have zV4 := hV4.lt; have s4 : w4.cell? ⟨w.heap.size + 1, 0, none⟩ = some (.slice A k c) := (by rw [hV4.cell]; rfl)) | (refine step_appI rfl (.tmp 16) (.tmp 19) rfl w.heap.size A k c l _ (by simp [Act.eval]) hO5 _ _ (Blk.new _ _ _) (by simp [Act.eval]) (by omega) hz4 ?_; intro g d' w6 hO6 hg6; have hV6 := hV5.grown hg6 (own_other' hO5 hV5 (by decide)); have s6 : w6.cell? ⟨w.heap.size + 1, 0, none⟩ = some (.slice A k c) := (by rw [hV6.cell]; rfl); have f6 := hV6.frozen 0))
      all_goals
        have hB5 := ((HB.out.keeps (Keeps.drew1 _)).grown hG4 (by simp; omega)).keeps (Keeps.alloc w4 (.cells #[.int .i64 x] 3))
        have hB6 := hB5.grown hg6 (own_other' hO5 hB5 (by decide))
        have hR6 : Rd w6 b (q + 1) := (hR4.gro (Keeps.alloc w4 (.cells #[.int .i64 x] 3))).grown hg6 (fun d hd => Nat.lt_of_lt_of_le hbw (own_block hO5 d hd).1)
        have hS5 := (ownS_gro (HS.out.keeps (Keeps.drew1 _)) hG4 (HRd.out.gro (Keeps.drew1 _))).keeps (Keeps.alloc w4 (.cells #[.int .i64 x] 3))
        have hS6 : OwnStops w6 w.heap.size S 0 d zs := own_kept hS5 hg6 (own_type hS5 hO5 (by decide))
        have hG6 : Gro b w w6 := (((hG.step (Gro.ofKeeps (Keeps.drew1 _))).step hG4).step (Gro.ofKeeps (Keeps.alloc w4 (.cells #[.int .i64 x] 3)))).step' hO5 (Nat.le_refl _) hg6
        go_wp2_with fail
        go_roundg (gk - 1)
        case measure => have := HK.out; omega
        case rel =>
          refine ⟨k + 1, q + 1, Lib.hid (by have := HK.out; omega), by omega, by omega, _, S, d', d, _, zs, hB6.set_other _ _ (by simp), hV6.set 0 _, hO6.grown (grown_set _ _ _ _) hV6 (by decide), hS6.grown (grown_set _ _ _ _) hV6 (by decide), hR6.set_other (by omega) _, hG6.setAbove (by omega) _⟩
    · have : k = N := by omega
      subst this
      have HV := Lib.hid hV
      have HST : Hid (RunSt b w.heap.size (w.heap.size + 1) k 0 q w wr) := Lib.hid ⟨A, S, c, d, l, zs, hB, hV, hO, hS, hR, hG⟩
      have hk4 : k ≤ 4 := by omega
      clear HK hB hV hO hS hR hG zV
      obtain ⟨wa, rfl⟩ : ∃ wa : World, wa = wr := ⟨_, rfl⟩
      have hp16 : 2 ^ k ≤ 16 := Nat.le_trans (Nat.pow_le_pow_right (by omega) hk4) (by omega)
      have hp1 : 1 ≤ 2 ^ k := Nat.two_pow_pos k
      have CP : Hid (∀ w, Calls Try.prog 50 #[.int .i64 k] w fun e w' => e = .returned (.int .i64 ((2 ^ k : Nat) : Int)) ∧ w = w') := Lib.hid (fun w => spower_any k w (by omega))
      generalize 2 ^ k = P at *
      go_wp2_with fail
      go_loopw [5] (fun i wr => ∃ (j m q : Nat), j ≤ k ∧ i = .int .i64 j ∧ m ≤ j ∧ q ≤ p + 5 + 3 * j ∧ RunSt b w.heap.size (w.heap.size + 1) k m q w wr) (fun i _ => k - (intOf i).toNat)
      case atStart => exact ⟨0, 0, q, by omega, rfl, by omega, by omega, HST.out⟩
      case round =>
        clear HV HST d0 f0
        obtain ⟨j, m, q, hj, rfl, hm, hq, A, S, c, d, l, zs, hB, hV, hO, hS, hR, hG⟩ := hrel
        by_cases hlt : j < k
        · have HB := Lib.hid hB
          have HV := Lib.hid hV
          have HO := Lib.hid hO
          have HS := Lib.hid hS
          have HRd := Lib.hid hR
          have HG := Lib.hid hG
          clear hB hV hO hS hR hG
          go_wp2_with fail
          refine (pick_any b q 2 _ HRd.out (by omega)).mono ?_
          rintro e w2 ⟨x, rfl, hx, hR2, hG2⟩
          have hO2 := own_gro HO.out hG2 HRd.out
          have hS2 := ownS_gro HS.out hG2 HRd.out
          have hV2 := HV.out.grown hG2 (by simp; omega)
          have hB2 := HB.out.grown hG2 (by simp; omega)
          have hGG2 := HG.out.step hG2
          have HRd2 := Lib.hid hR2
          have HO2 := Lib.hid hO2
          have HS2 := Lib.hid hS2
          have HV2 := Lib.hid hV2
          have HB2 := Lib.hid hB2
          have HG2 := Lib.hid hGG2
          clear HB HV HO HS HRd HG hG2 hR2 hO2 hS2 hB2 hGG2
          by_cases hx0 : x = 0
          · subst hx0
            have d0 : w2.cell? ⟨w.heap.size + 1, 1, none⟩ = some (.slice S m d) := by rw [hV2.cell]; rfl
            have zV := hV2.lt
            clear hV2
            go_wp2_with fail
            go_region_law (first | (refine step_go 73 #[.tmp 36, .tmp 38] #[52, 3] rfl rfl (fun _ _ => rfl) (by simp [Act.eval, Act.put]) (pick_any b (q + 2) (P : Int) _ hR4 (by omega)) ?_; rintro e w6 ⟨z, rfl, hz, hR6, hG6⟩; refine ⟨_, rfl, ?_⟩; have hO6 := (own_gro hO4 hG6 hR4).keeps (Keeps.alloc w6 (.cells #[.int .i64 j, .int .i64 (1 + (y : Int)), .int .i64 z] 65)); have hS6 := (ownS_gro hS4 hG6 hR4).keeps (Keeps.alloc w6 (.cells #[.int .i64 j, .int .i64 (1 + (y : Int)), .int .i64 z] 65)); have hV60 := hV4.grown hG6 (by simp; omega); have zV6 := hV60.lt; have hV6 := hV60.keeps (Keeps.alloc w6 (.cells #[.int .i64 j, .int .i64 (1 + (y : Int)), .int .i64 z] 65)); have hB6 := (hB4.grown hG6 (by simp; omega)).keeps (Keeps.alloc w6 (.cells #[.int .i64 j, .int .i64 (1 + (y : Int)), .int .i64 z] 65)); have hGG6 := (hGG4.step hG6).step (Gro.ofKeeps (Keeps.alloc w6 (.cells #[.int .i64 j, .int .i64 (1 + (y : Int)), .int .i64 z] 65))); have s6 : w6.cell? ⟨w.heap.size + 1, 1, none⟩ = some (.slice S m d) := (by rw [hV60.cell]; rfl)) | (refine step_go 50 #[.tmp 37] #[3] rfl rfl (fun _ _ => rfl) (by simp [Act.eval, Act.put]) (CP.out _) ?_; rintro e w5 ⟨rfl, rfl⟩; refine ⟨_, rfl, ?_⟩) | (refine step_go 73 #[.tmp 33, .const (.int .i64 3)] #[52, 3] rfl rfl (fun _ _ => rfl) (by simp [Act.eval, Act.put]) (pick_any b (q + 1) 3 _ (HRd2.out.gro (Keeps.drew1 _)) (by omega)) ?_; rintro e w4 ⟨y, rfl, hy, hR4, hG4⟩; refine ⟨_, rfl, ?_⟩; have W1 : IntKind.i64.wrap (1 + (y : Int)) = 1 + (y : Int) := (by rw [IntKind.wrap_i64]; omega); have hO4 := own_gro (HO2.out.keeps (Keeps.drew1 _)) hG4 (HRd2.out.gro (Keeps.drew1 _)); have hS4 := ownS_gro (HS2.out.keeps (Keeps.drew1 _)) hG4 (HRd2.out.gro (Keeps.drew1 _)); have hV4 := (HV2.out.keeps (Keeps.drew1 _)).grown hG4 (by simp; omega); have hB4 := (HB2.out.keeps (Keeps.drew1 _)).grown hG4 (by simp; omega); have hGG4 := (HG2.out.step (Gro.ofKeeps (Keeps.drew1 _))).step hG4; have zV4 := hV4.lt; have s4 : w4.cell? ⟨w.heap.size + 1, 1, none⟩ = some (.slice S m d) := (by rw [hV4.cell]; rfl)) | (refine step_appS rfl (.tmp 31) (.tmp 41) rfl w.heap.size S m d zs _ (by simp [Act.eval]) hS6 _ _ _ _ (Blk.new _ _ _) (by simp [Act.eval]) (by omega) hGG6.size ?_; intro g d' w8 hS8 hg8; have hV8 := hV6.grown hg8 (own_other' hS6 hV6 (by decide)); have s8 : w8.cell? ⟨w.heap.size + 1, 1, none⟩ = some (.slice S m d) := (by rw [hV8.cell]; rfl); have f8 := hV8.frozen 1))
            all_goals
              have hB8 := hB6.grown hg8 (own_other' hS6 hB6 (by decide))
              have hR8 : Rd w8 b (q + 2 + 1) := (hR6.gro (Keeps.alloc w6 (.cells #[.int .i64 j, .int .i64 (1 + (y : Int)), .int .i64 z] 65))).grown hg8 (fun d hd => Nat.lt_of_lt_of_le hbw (own_block hS6 d hd).1)
              have hO8 : OwnInts w8 w.heap.size A k c l := own_kept hO6 hg8 (own_type hO6 hS6 (by decide))
              have hG8 : Gro b w w8 := hGG6.step' hS6 (Nat.le_refl _) hg8
              go_wp2_with fail
              go_roundw
              case rel => exact ⟨j + 1, m + 1, q + 2 + 1, by omega, by go_num, by omega, by omega, A, _, c, d', l, _, hB8.set_other _ _ (by simp), hV8.set 1 _, hO8.grown (grown_set _ _ _ _) hV8 (by decide), hS8.grown (grown_set _ _ _ _) hV8 (by decide), hR8.set_other (by omega) _, hG8.setAbove (by omega) _⟩
              case measure => simp [intOf]; omega
          · have hx0' : ((x : Int) == 0) = false := by simp; omega
            clear hx0 hV2
            go_wp2
            go_roundw
            case rel => exact ⟨j + 1, m, q + 1, by omega, by go_num, by omega, by omega, A, S, c, d, l, zs, HB2.out, HV2.out, HO2.out, HS2.out, HRd2.out, HG2.out⟩
            case measure => simp [intOf]; omega
        · have : j = k := by omega
          subst this
          have hj1 : 1 ≤ j := by omega
          go_wp2_with fail
          refine (pick_any b q 30 _ hR (by omega)).mono ?_
          rintro e w3 ⟨k, rfl, hk, hR3, hG3⟩
          have hV3 := hV.grown hG3 (by simp; omega)
          have hB3 := hB.grown hG3 (by simp; omega)
          have hO3 := own_gro hO hG3 hR
          have hS3 := ownS_gro hS hG3 hR
          have hG3' := hG.step hG3
          clear hV hB hO hS hG3 hG hR
          have hm5 : m ≤ 4 := by omega
          clear hm hq
          have hq : q ≤ p + 17 := by omega
          have zV := hV3.lt
          have c0 : w3.cell? ⟨w.heap.size + 1, 0, none⟩ = some (.slice A j c) := by rw [hV3.cell]; rfl
          have c1 : w3.cell? ⟨w.heap.size + 1, 1, none⟩ = some (.slice S m d) := by rw [hV3.cell]; rfl
          have f0 := hV3.frozen 0
          have f1 := hV3.frozen 1
          go_upto_block 4 with fail
          go_cut [] (fun wx => ∃ m q : Nat, m ≤ 5 ∧ q ≤ p + 40 ∧ RunSt b w.heap.size (w.heap.size + 1) j m q w wx)
          case first =>
            by_cases k0 : k = 0
            · subst k0
              obtain ⟨g, rfl⟩ := hO3.at hj1
              have hgV : g ≠ w.heap.size + 1 := fun e => blk_ne'' hO3 hV3 (by decide) e.symm
              have hgl : g ≠ w.heap.size := fun e => blk_ne'' hO3 hB3 (by decide) e.symm
              have hj0 : 0 < j := by omega
              have hgb := hO3.block
              have hcg := hO3.cell 0 (by omega)
              have hfg := hO3.frozen 0
              have hVb : w.heap.size + 1 ≠ b := by omega
              have hgb' : g ≠ b := by omega
              have HR3 := Lib.hid hR3
              have HO3 := Lib.hid hO3
              have HV3 := Lib.hid hV3
              have HB3 := Lib.hid hB3
              have HS3 := Lib.hid hS3
              have HG3 := Lib.hid hG3'
              clear hR3 hO3 hV3 hB3 hS3 hG3'
              go_wp2_with fail
              go_region_held3 (fun w' => w'.cell? ⟨w.heap.size + 1, 0, none⟩ = some (.slice (some ⟨g, 0, none⟩) j c)) (first | exact hG5.cell (by assumption) hVb | go_keep) (first | (go_at_call 43; refine (one_lit_d b (q + 1) [-1, 4] (-1) 4 _ _ _ _ (by decide) (by decide) (by decide) (by omega) HR3.out rfl rfl rfl).mono ?_; rintro e w5 ⟨x, rfl, hx1, hx2, hR5, hG5⟩; have hd5 := hG5.cell (cell_keeps ((Keeps.alloc _ _).step (Keeps.drew1 _)) hcg) hgb'; have hO5 := own_gro (HO3.out.keeps ((Keeps.alloc w3 (.cells #[.int .i64 (-1), .int .i64 4] 3)).step (Keeps.drew1 _))) hG5 (HR3.out.gro ((Keeps.alloc w3 (.cells #[.int .i64 (-1), .int .i64 4] 3)).step (Keeps.drew1 _))); have fd5 := hO5.frozen 0))
              go_wp2_with fail
              go_meet
              have kk5 : Keeps w3 (w3.alloc (.cells #[.int .i64 (-1), .int .i64 4] 3)).drew := (Keeps.alloc _ _).step (Keeps.drew1 _)
              have hV5 := (HV3.out.keeps kk5).grown hG5 (by simp; omega)
              have hB5 := (HB3.out.keeps kk5).grown hG5 (by simp; omega)
              have hS5 := ownS_gro (HS3.out.keeps kk5) hG5 (HR3.out.gro kk5)
              have hG5' := (HG3.out.step (Gro.ofKeeps kk5)).step hG5
              exact ⟨m, q + 2, by omega, by omega, _, S, c, d, _, zs, hB5.set_other _ _ (fun e => hgl e.symm), hV5.set_other _ _ (fun e => hgV e.symm), hO5.set 0 x, own_kept hS5 (grown_set _ _ _ _) (fun kk hkk e => own_type hS5 hO5 (by decide) kk hkk e), hR5.set_other (by omega) _, hG5'.setAbove (by omega) _⟩
            · by_cases k1 : k = 1
              · subst k1
                have hS4 := hS3.keeps (Keeps.alloc w3 (.cells #[.int .i64 0, .int .i64 1, .int .i64 0] 65))
                have hV4 := hV3.keeps (Keeps.alloc w3 (.cells #[.int .i64 0, .int .i64 1, .int .i64 0] 65))
                have hB4 := hB3.keeps (Keeps.alloc w3 (.cells #[.int .i64 0, .int .i64 1, .int .i64 0] 65))
                have hO4 := hO3.keeps (Keeps.alloc w3 (.cells #[.int .i64 0, .int .i64 1, .int .i64 0] 65))
                have hG4 := hG3'.step (Gro.ofKeeps (Keeps.alloc w3 (.cells #[.int .i64 0, .int .i64 1, .int .i64 0] 65)))
                have hR4 := hR3.gro (Keeps.alloc w3 (.cells #[.int .i64 0, .int .i64 1, .int .i64 0] 65))
                go_wp2_with (first | (at_builtin; refine wp_appS rfl _ _ rfl w.heap.size S m d zs _ rfl hS4 _ 0 1 0 (Blk.new _ _ _) rfl (by omega) hG4.size ?_; intro g6 d6 w6 hS6 hg6; have hV6 := hV4.grown hg6 (own_other' hS4 hV4 (by decide)); have s6 : w6.cell? ⟨w.heap.size + 1, 1, none⟩ = some (.slice S m d) := (by rw [hV6.cell]; rfl); have f6 := hV6.frozen 1))
                go_meet
                have hB6 := hB4.grown hg6 (own_other' hS4 hB4 (by decide))
                have hR6 : Rd w6 b (q + 1) := hR4.grown hg6 (fun d hd => Nat.lt_of_lt_of_le hbw (own_block hS4 d hd).1)
                have hO6 : OwnInts w6 w.heap.size A j c l := own_kept hO4 hg6 (own_type hO4 hS4 (by decide))
                have hG6 : Gro b w w6 := hG4.step' hS4 (Nat.le_refl _) hg6
                exact ⟨m + 1, q + 1, by omega, by omega, A, _, c, d6, l, _, hB6.set_other _ _ (by simp), hV6.set 1 _, hO6.grown (grown_set _ _ _ _) hV6 (by decide), hS6.grown (grown_set _ _ _ _) hV6 (by decide), hR6.set_other (by omega) _, hG6.setAbove (by omega) _⟩
              · have k0' : ((k : Int) == 0) = false := by simp; omega
                have k1' : ((k : Int) == 1) = false := by simp; omega
                have hST : RunSt b w.heap.size (w.heap.size + 1) j m (q + 1) w w3 := ⟨A, S, c, d, l, zs, hB3, hV3, hO3, hS3, hR3, hG3'⟩
                by_cases k2 : k = 2
                · subst k2
                  by_cases hm0 : m = 0
                  · subst hm0
                    have HST := Lib.hid hST
                    clear hB3 hV3 hO3 hS3 hR3 hG3' hST k0 k1
                    go_wp2_with fail
                    go_meet
                    exact ⟨0, q + 1, by omega, by omega, HST.out⟩
                  · obtain ⟨g, rfl⟩ := hS3.at (by omega)
                    have hgV : g ≠ w.heap.size + 1 := fun e => stops_ne hS3 hV3 (by decide) e.symm
                    have hgl : g ≠ w.heap.size := fun e => stops_ne hS3 hB3 (by decide) e.symm
                    have hm0' : 0 < m := by omega
                    have hgb := hS3.block
                    have hcg := hS3.cell 1 (by omega)
                    have hfg := hS3.frozen 1
                    have hVb : w.heap.size + 1 ≠ b := by omega
                    have hgb' : g ≠ b := by omega
                    have HR3 := Lib.hid hR3
                    have HO3 := Lib.hid hO3
                    have HV3 := Lib.hid hV3
                    have HB3 := Lib.hid hB3
                    have HS3 := Lib.hid hS3
                    have HG3 := Lib.hid hG3'
                    clear hR3 hO3 hV3 hB3 hS3 hG3' hST k0 k1
                    go_wp2_with fail
                    go_region_held3 (fun w' => w'.cell? ⟨w.heap.size + 1, 1, none⟩ = some (.slice (some ⟨g, 0, none⟩) m d)) (first | exact hG5.cell (by assumption) hVb | go_keep) (first | (go_at_call 43; refine (one_lit_d b (q + 1) [0, 5] 0 5 _ _ _ _ (by decide) (by decide) (by decide) (by omega) HR3.out rfl rfl rfl).mono ?_; rintro e w5 ⟨x, rfl, hx1, hx2, hR5, hG5⟩; have hd5 := hG5.cell (cell_keeps ((Keeps.alloc _ _).step (Keeps.drew1 _)) hcg) hgb'; have hS5 := ownS_gro (HS3.out.keeps ((Keeps.alloc w3 (.cells #[.int .i64 0, .int .i64 5] 3)).step (Keeps.drew1 _))) hG5 (HR3.out.gro ((Keeps.alloc w3 (.cells #[.int .i64 0, .int .i64 5] 3)).step (Keeps.drew1 _))); have fd5 := hS5.frozen 1))
                    go_wp2_with fail
                    go_meet
                    have kk5 : Keeps w3 (w3.alloc (.cells #[.int .i64 0, .int .i64 5] 3)).drew := (Keeps.alloc _ _).step (Keeps.drew1 _)
                    have hV5 := (HV3.out.keeps kk5).grown hG5 (by simp; omega)
                    have hB5 := (HB3.out.keeps kk5).grown hG5 (by simp; omega)
                    have hO5 := own_gro (HO3.out.keeps kk5) hG5 (HR3.out.gro kk5)
                    have hG5' := (HG3.out.step (Gro.ofKeeps kk5)).step hG5
                    exact ⟨m, q + 2, by omega, by omega, A, _, c, d, l, _, hB5.set_other _ _ (fun e => hgl e.symm), hV5.set_other _ _ (fun e => hgV e.symm), own_kept hO5 (grown_set _ _ _ _) (fun kk hkk e => own_type hO5 hS5 (by decide) kk hkk e), hS5.set 1 x, hR5.set_other (by omega) _, hG5'.setAbove (by omega) _⟩
                · have k2' : ((k : Int) == 2) = false := by simp; omega
                  by_cases k3 : k = 3
                  · subst k3
                    by_cases hm0 : m = 0
                    · subst hm0
                      have HST := Lib.hid hST
                      clear hB3 hV3 hO3 hS3 hR3 hG3' hST k0 k1
                      go_wp2_with fail
                      go_meet
                      exact ⟨0, q + 1, by omega, by omega, HST.out⟩
                    · obtain ⟨g, rfl⟩ := hS3.at (by omega)
                      have hgV : g ≠ w.heap.size + 1 := fun e => stops_ne hS3 hV3 (by decide) e.symm
                      have hgl : g ≠ w.heap.size := fun e => stops_ne hS3 hB3 (by decide) e.symm
                      have hm0' : 0 < m := by omega
                      have hgb := hS3.block
                      have hcg := hS3.cell 2 (by omega)
                      have hfg := hS3.frozen 2
                      have hVb : w.heap.size + 1 ≠ b := by omega
                      have hgb' : g ≠ b := by omega
                      have HR3 := Lib.hid hR3
                      have HO3 := Lib.hid hO3
                      have HV3 := Lib.hid hV3
                      have HB3 := Lib.hid hB3
                      have HS3 := Lib.hid hS3
                      have HG3 := Lib.hid hG3'
                      clear hR3 hO3 hV3 hB3 hS3 hG3' hST k0 k1
                      go_wp2_with fail
                      go_region_held3 (fun w' => w'.cell? ⟨w.heap.size + 1, 1, none⟩ = some (.slice (some ⟨g, 0, none⟩) m d)) (first | assumption | go_keep) (first | (go_at_call 50; refine (CP.out _).mono ?_; rintro e w5 ⟨rfl, rfl⟩))
                      go_wp2_with fail
                      go_meet
                      have kk5 := Keeps.drew1 w3
                      have hV5 := HV3.out.keeps kk5
                      have hB5 := HB3.out.keeps kk5
                      have hO5 := HO3.out.keeps kk5
                      have hS5 := HS3.out.keeps kk5
                      have hR5 := HR3.out.gro kk5
                      have hG5' := HG3.out.step (Gro.ofKeeps kk5)
                      exact ⟨m, q + 1, by omega, by omega, A, _, c, d, l, _, hB5.set_other _ _ (fun e => hgl e.symm), hV5.set_other _ _ (fun e => hgV e.symm), own_kept hO5 (grown_set _ _ _ _) (fun kk hkk e => own_type hO5 hS5 (by decide) kk hkk e), hS5.set 2 (P : Int), hR5.set_other (by omega) _, hG5'.setAbove (by omega) _⟩
                  · have k3' : ((k : Int) == 3) = false := by simp; omega
                    have HST := Lib.hid hST
                    clear hB3 hV3 hO3 hS3 hR3 hG3' hST k0 k1 k2 k3
                    go_wp2_with fail
                    go_meet
                    exact ⟨m, q + 1, by omega, by omega, HST.out⟩
          case rest =>
            clear hB3 hV3 hO3 hS3 hR3 hG3' c0 c1 f0 f1 zV
            obtain ⟨m2, q2, hm2, hq2, A2, S2, c2, d2, l2, zs2, hB, hV, hO, hS, hR, hG⟩ := hcut
            have c10 : wc.cell? ⟨w.heap.size + 1, 0, none⟩ = some (.slice A2 j c2) := by rw [hV.cell]; rfl
            have c11 : wc.cell? ⟨w.heap.size + 1, 1, none⟩ = some (.slice S2 m2 d2) := by rw [hV.cell]; rfl
            have c00 : wc.cell? ⟨w.heap.size, 0, none⟩ = some (.slice none 0 0) := by rw [hB.cell]; rfl
            have c01 : wc.cell? ⟨w.heap.size, 1, none⟩ = some (.slice none 0 0) := by rw [hB.cell]; rfl
            have f00 := hB.frozen 0
            have f01 := hB.frozen 1
            go_wp2
            have k1 := hB.set 0 (.slice A2 j c2)
            refine bodyPost_ret (v := .agg #[.slice A2 j c2, .slice S2 m2 d2]) (by simp [results, Try.results42, go_sem, c00, c01]) rfl ⟨j, m2, q2, A2, S2, c2, d2, l2, zs2, rfl, ?_, ?_, hk4, hm2, (hR.set_other hbw _).set_other hbw _, hq2, (hG.setAbove (Nat.le_refl _) _).setAbove (Nat.le_refl _) _⟩
            · exact (hO.grown (grown_set _ _ _ _) hB (by decide)).grown (grown_set _ _ _ _) k1 (by decide)
            · exact (hS.grown (grown_set _ _ _ _) hB (by decide)).grown (grown_set _ _ _ _) k1 (by decide)
end Go.Proofs.Ytepgogaoppdllaa
