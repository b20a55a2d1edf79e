/-
  The contract of netOf of the generator: whatever the code is, a net in new memory. Condition: at most a thousand picks so far, at most six nodes.
-/
import Derived.Test.YtdjilgbcpdlkfaaMat
import Derived.Deep.RegionLaw
import Derived.Deep.DeepCutAuto
import Derived.Deep.CutBlock
namespace Go.Proofs.Ytdjilgbcpdlkfaa
open Go.RowKit

/-- A net under way: the result's box R, the net's box V, n rows, k marks. -/
structure NetB (b lo R V n k q : Nat) (w : World) (A : Option Addr) (cA : Nat) (B : Option Addr) (cB : Nat) (wx : World) : Prop where
  r : Blk wx R 27 #[.slice none 0 0, .slice none 0 0]
  v : Blk wx V 27 #[.slice A n cA, .slice B k cB]
  net : OwnNet wx lo A n cA B k cB
  rd : Rd wx b q
  gro : Gro b w wx
theorem NetB.keeps {b lo R V n k q : Nat} {w : World} {A : Option Addr} {cA : Nat} {B : Option Addr} {cB : Nat} {wx wy : World} (h : NetB b lo R V n k q w A cA B cB wx) (kk : Keeps wx wy) : NetB b lo R V n k q w A cA B cB wy :=
  ⟨h.r.keeps kk, h.v.keeps kk, h.net.keeps kk, h.rd.gro kk, h.gro.step (Gro.ofKeeps kk)⟩
/-- After a pick. -/
theorem NetB.gro' {b lo R V n k q q' : Nat} {w : World} {A : Option Addr} {cA : Nat} {B : Option Addr} {cB : Nat} {wx wy : World} (h : NetB b lo R V n k q w A cA B cB wx) (g : Gro b wx wy) (hr : Rd wy b q') (hR : b < R) (hV : b < V) : NetB b lo R V n k q' w A cA B cB wy := by
  obtain ⟨cs, hb⟩ := h.rd.blk
  exact ⟨h.r.grown g (by simp; omega), h.v.grown g (by simp; omega), h.net.grown g hb (by decide) (by decide), hr, h.gro.step g⟩
theorem Gro.above {b : Nat} {w0 w w' : World} {row : Option Nat} (h : Gro b w0 w) (hg : w.grownBy w' row) (hr : ∀ x, row = some x → w0.heap.size ≤ x) : Gro b w0 w' :=
  ⟨hg.os.trans h.os, hg.tape.trans h.tape, hg.output.trans h.output, Nat.le_trans h.size hg.size, fun i hi hn => (hg.block i (Nat.lt_of_lt_of_le hi h.size) (fun e => by have := hr i e.symm; omega)).trans (h.block i hi hn)⟩
theorem own_gro {w w' : World} {lo b n c : Nat} {A : Option Addr} {l : List Int} (h : OwnInts w lo A n c l) (g : Gro b w w') {p : Nat} (hr : Rd w b p) : OwnInts w' lo A n c l := by
  obtain ⟨cs, hb⟩ := hr.blk
  exact h.grown g hb (by decide)
/-- What a drawn net is: it lies in new memory. -/
def NetDrawn (b p j : Nat) (w : World) (e : Ending) (w' : World) : Prop :=
  ∃ (m q : Nat) (A B : Option Addr) (c d : Nat), e = .returned (.agg #[.slice A m c, .slice B m d]) ∧ OwnNet w' w.heap.size A m c B m d ∧ 1 ≤ m ∧ m ≤ 6 ∧ Rd w' b q ∧ q ≤ p + j ∧ Gro b w w'
theorem own_n {w : World} {lo n n' c : Nat} {A : Option Addr} {l : List Int} (h : OwnInts w lo A n c l) (e : n = n') : OwnInts w lo A n' c l := e ▸ h
set_option maxRecDepth 100000 in
set_option maxHeartbeats 40000000 in
theorem netOf_any (b p m : Nat) (NA : Option Addr) (nc : Nat) (near : Nat → Nat) (w : World) (h : Rd w b p) (hp : p ≤ 1000) (hm : m ≤ 6) (hm1 : 1 ≤ m) (hI : Ints w NA m (fun v => (near v : Nat))) (hne : ∀ d off, NA = some ⟨d, off, none⟩ → d ≠ b) (hnear : ∀ v, v < m → near v < 64) :
    Calls Try.prog 85 #[.pointer (some ⟨b, 0, none⟩), .int .i64 m, .slice NA m nc] w (NetDrawn b p 60 w) := by
  have HR := Lib.hid h
  have HI := Lib.hid hI
  have HNE := Lib.hid hne
  have HNEAR := Lib.hid hnear
  clear h hI hne hnear
  have hbw := HR.out.lt
  go_enter Try.func85, Try.ntmps85
  go_wp2_with fail
  refine (pick_any b p 3 _ ((HR.out.gro (Keeps.alloc _ _)).gro (Keeps.alloc _ _)) (by omega)).mono ?_
  rintro e w1 ⟨x, rfl, hx, hR1, hG1⟩
  have hS1 : NetB b w.heap.size w.heap.size (w.heap.size + 1) 0 0 (p + 1) w none 0 none 0 w1 :=
    ⟨((Blk.new w _ _).keeps (Keeps.alloc _ _)).grown hG1 (by simp; omega), (blk_at (by simp) (Blk.new _ _ _)).grown hG1 (by simp; omega), OwnNet.nil _ _, hR1, (((Gro.ofKeeps (Keeps.alloc w _)).step (Gro.ofKeeps (Keeps.alloc _ _)))).step hG1⟩
  have HS1 := Lib.hid hS1
  obtain ⟨tn, htn⟩ : ∃ tn, ((x : Int) == 0) = tn := ⟨_, rfl⟩
  clear hS1 hR1 hG1
  go_wp2_with fail
  refine (one_lit b (p + 1) [0, 1, 2, 9] 0 9 _ _ _ _ (by decide) (by decide) (by decide) (by omega) HS1.out.rd rfl (by simp) rfl).mono ?_
  rintro e w2 ⟨mk, rfl, hmk1, hmk2, hR2, hG2⟩
  have HS2 := Lib.hid ((HS1.out.keeps (Keeps.alloc w1 (.cells #[.int .i64 0, .int .i64 1, .int .i64 2, .int .i64 9] 3))).gro' hG2 hR2 hbw (by omega))
  clear HS1 hR2 hG2
  go_wp2_with fail
  go_loopw [10] (fun i wr => ∃ (v q : Nat) (A : Option Addr) (cA : Nat) (B : Option Addr) (cB : Nat), v ≤ m ∧ i = .int .i64 v ∧ q ≤ p + 2 + 7 * v ∧ Hid (NetB b w.heap.size w.heap.size (w.heap.size + 1) v v q w A cA B cB wr)) (fun i _ => m - (intOf i).toNat)
  case atStart => exact ⟨0, p + 2, none, 0, none, 0, by omega, rfl, by omega, HS2⟩
  case round =>
    clear HS2
    obtain ⟨v, q, A, cA, B, cB, hv, rfl, hq, HS⟩ := hrel
    obtain ⟨wo, rfl⟩ : ∃ wo : World, wo = wr := ⟨_, rfl⟩
    by_cases hlt : v < m
    · have hvi : (v : Int) < m := by omega
      obtain ⟨bN, oN, eN, hcN⟩ := HI.out v hlt
      have hnb := HNE.out bN oN eN
      subst eN
      have hn64 := HNEAR.out v hlt
      (try dsimp only at hcN)
      generalize near v = nr at *
      have HCN := Lib.hid hcN
      have HSO := HS
      have hlow : w.heap.size ≤ wo.heap.size := HS.out.gro.size
      have HL0 : Hid (OwnInts (wo.alloc (.cells #[] 3)) wo.heap.size (some ⟨wo.heap.size, 0, none⟩) 0 0 []) := Lib.hid (OwnInts.made wo wo.heap.size (Nat.le_refl _))
      have HK0 := Lib.hid (Gro.ofKeeps (b := b) (Keeps.alloc wo (.cells #[] 3)))
      have HS0 := Lib.hid (HS.out.keeps (Keeps.alloc wo (.cells #[] 3)))
      clear hcN
      go_wp2_with fail
      go_loopw [12, 11] (fun i lv wi => ∃ (u g k c q' : Nat) (l : List Int), u ≤ m ∧ i = .int .i64 u ∧ lv = .slice (some ⟨g, 0, none⟩) k c ∧ k ≤ u ∧ q' ≤ q + u ∧ Hid (OwnInts wi wo.heap.size (some ⟨g, 0, none⟩) k c l) ∧ Hid (Gro b wo wi) ∧ Hid (NetB b w.heap.size w.heap.size (w.heap.size + 1) v v q' w A cA B cB wi)) (fun i _ _ => m - (intOf i).toNat)
      case atStart => exact ⟨0, wo.heap.size, 0, 0, q, [], by omega, rfl, rfl, by omega, by omega, HL0, HK0, HS0⟩
      case round =>
        clear HL0 HS0 HK0 HS
        obtain ⟨u, g, k, c, q', l, hu, rfl, rfl, hk, hq', HL, HKO, HS⟩ := hrel
        obtain ⟨wi, rfl⟩ : ∃ wi : World, wi = wr := ⟨_, rfl⟩
        by_cases hltu : u < m
        · have hui : (u : Int) < m := by omega
          have gN := HS.out.gro.cell HCN.out hnb
          have hkc := (own_cap HL.out).1
          have hc63 := (own_cap HL.out).2
          go_wp2_with fail
          refine (sbit_any nr u _ (by omega) (by omega)).mono ?_
          rintro e w3 ⟨rfl, rfl⟩
          cases eb : nr.testBit u
          · rw [show bitI false = 0 from rfl]
            clear eb gN
            go_wp2_with fail
            go_roundw
            case rel => exact ⟨u + 1, g, k, c, q', l, by omega, by go_num, rfl, by omega, by omega, HL, HKO, HS⟩
            case measure => simp [intOf]; omega
          · rw [show bitI true = 1 from rfl]
            clear eb gN
            cases tn
            · go_upto_region 15 with fail
              have hkk0 : k ≤ k := by omega
              have hki : (k : Int) ≤ k := by omega
              have hkci : (k : Int) ≤ c := by omega
              have hkkc : (k : Int) ≤ c := by omega
              have hzz : wo.heap.size ≤ wi.heap.size := HKO.out.size
              have HA1 := Lib.hid (OwnInts.made wi wi.heap.size (Nat.le_refl _))
              have kA := Keeps.alloc wi (.cells #[] 3)
              have kU := Keeps.alloc wi (.cells #[.int .i64 u] 3)
              have kAU : Keeps wi ((wi.alloc (.cells #[] 3)).alloc (.cells #[.int .i64 u] 3)) := kA.step (Keeps.alloc _ _)
              have kUA : Keeps wi ((wi.alloc (.cells #[.int .i64 u] 3)).alloc (.cells #[] 3)) := kU.step (Keeps.alloc _ _)
              have HOA : Hid (OwnInts (wi.alloc (.cells #[] 3)).drew wi.heap.size (some ⟨wi.heap.size, 0, none⟩) 0 0 []) := Lib.hid ((OwnInts.made wi wi.heap.size (Nat.le_refl _)).keeps (Keeps.drew1 _))
              have HOB : Hid (OwnInts ((wi.alloc (.cells #[] 3)).alloc (.cells #[.int .i64 u] 3)).drew wi.heap.size (some ⟨wi.heap.size, 0, none⟩) 0 0 []) := Lib.hid (((OwnInts.made wi wi.heap.size (Nat.le_refl _)).keeps (Keeps.alloc _ _)).keeps (Keeps.drew1 _))
              have HOC : Hid (OwnInts ((wi.alloc (.cells #[.int .i64 u] 3)).alloc (.cells #[] 3)).drew wi.heap.size (some ⟨wi.heap.size + 1, 0, none⟩) 0 0 []) := Lib.hid (by have := (OwnInts.made (wi.alloc (.cells #[.int .i64 u] 3)) wi.heap.size kU.size).keeps (Keeps.drew1 _); rwa [World.size_alloc] at this)
              have HUB : Hid (Blk ((wi.alloc (.cells #[] 3)).alloc (.cells #[.int .i64 u] 3)).drew (wi.heap.size + 1) 3 #[.int .i64 u]) := Lib.hid ((blk_at (by simp) (Blk.new _ _ _)).keeps (Keeps.drew1 _))
              have HUC : Hid (Blk ((wi.alloc (.cells #[.int .i64 u] 3)).alloc (.cells #[] 3)).drew wi.heap.size 3 #[.int .i64 u]) := Lib.hid (((Blk.new _ _ _).keeps (Keeps.alloc _ _)).keeps (Keeps.drew1 _))
              have HKA := Lib.hid (kA.step (Keeps.drew1 _))
              have HKB := Lib.hid (kAU.step (Keeps.drew1 _))
              have HKC := Lib.hid (kUA.step (Keeps.drew1 _))
              clear HA1 kA kU kAU kUA
              by_cases hck : c = k
              · obtain rfl : k = c := hck.symm
                go_region_law (first | (refine step_srcI rfl (.tmp 47) (.tmp 50) rfl wi.heap.size (wi.heap.size) 0 0 [] _ (by simp [Act.eval]) HOA.out g 0 k k (fun i => l.getD i 0) (by simp [Act.eval]) (fun i hi => cell_keeps HKA.out (by rw [Nat.zero_add]; exact HL.out.cell i (by omega))) (by omega) HKA.out.size ?_; intro g5 c5 w5 hO5 hg5; have hk5 := HKA.out.grown HOA.out (Nat.le_refl _) hg5) | (refine step_srcI rfl (.tmp 47) (.tmp 50) rfl wi.heap.size (wi.heap.size) 0 0 [] _ (by simp [Act.eval]) HOB.out g 0 k k (fun i => l.getD i 0) (by simp [Act.eval]) (fun i hi => cell_keeps HKB.out (by rw [Nat.zero_add]; exact HL.out.cell i (by omega))) (by omega) HKB.out.size ?_; intro g5 c5 w5 hO5 hg5; have hk5 := HKB.out.grown HOB.out (Nat.le_refl _) hg5; have hF5 := HUB.out.grown hg5 (by simp)) | (refine step_srcI rfl (.tmp 47) (.tmp 50) rfl wi.heap.size (wi.heap.size + 1) 0 0 [] _ (by simp [Act.eval]) HOC.out g 0 k k (fun i => l.getD i 0) (by simp [Act.eval]) (fun i hi => cell_keeps HKC.out (by rw [Nat.zero_add]; exact HL.out.cell i (by omega))) (by omega) HKC.out.size ?_; intro g5 c5 w5 hO5 hg5; have hk5 := HKC.out.grown HOC.out (Nat.le_refl _) hg5; have hF5 := HUC.out.grown hg5 (by simp)) | (refine step_oneI rfl (.tmp 51) (.tmp 53) rfl wi.heap.size (some ⟨g5, 0, none⟩) (0 + k) c5 _ _ (by simp [Act.eval]) (hO5.keeps (Keeps.alloc w5 (.cells #[.int .i64 u] 3))) w5.heap.size (u : Int) (Blk.new _ _ _) (by simp [Act.eval]) (by omega) (hk5.step (Keeps.alloc w5 (.cells #[.int .i64 u] 3))).size ?_; intro g7 c7 w7 hO7 hg7; have hk7 := (hk5.step (Keeps.alloc w5 (.cells #[.int .i64 u] 3))).grown (hO5.keeps (Keeps.alloc w5 (.cells #[.int .i64 u] 3))) (Nat.le_refl _) hg7) | (refine step_oneI rfl (.tmp 51) (.tmp 53) rfl wi.heap.size (some ⟨g5, 0, none⟩) (0 + k) c5 _ _ (by simp [Act.eval]) hO5 _ (u : Int) hF5 (by simp [Act.eval]) (by omega) hk5.size ?_; intro g7 c7 w7 hO7 hg7; have hk7 := hk5.grown hO5 (Nat.le_refl _) hg7) | (refine step_srcI rfl (.tmp 54) (.tmp 57) rfl wi.heap.size g7 (0 + k + 1) c7 _ _ (by simp [Act.eval]) hO7 g 0 (k - k) (k - k) (fun i => l.getD (k + i) 0) (by simp [Act.eval]) (fun i hi => absurd hi (by omega)) (by omega) hk7.size ?_; intro g8 c8 w8 hO8 hg8; have hk8 := hk7.grown hO7 (Nat.le_refl _) hg8))
                all_goals
                  have HS8 := Lib.hid (HS.out.keeps hk8)
                  have HL8 := Lib.hid (hO8.mono (lo' := wo.heap.size) hzz)
                  have HKO8 := Lib.hid (HKO.out.step (Gro.ofKeeps hk8))
                  clear hO8 hg8 hk8 hO7 hg7 hk7 hO5 hg5 hk5
                  go_wp2_with fail
                  go_roundw
                  case rel => exact ⟨u + 1, g8, _, c8, _, _, by omega, by go_num, rfl, by omega, by omega, Lib.hid (own_n HL8.out (by omega)), HKO8, HS8⟩
                  case measure => simp [intOf]; omega
              · go_region_law (first | (refine step_srcI rfl (.tmp 47) (.tmp 50) rfl wi.heap.size (wi.heap.size) 0 0 [] _ (by simp [Act.eval]) HOA.out g 0 k c (fun i => l.getD i 0) (by simp [Act.eval]) (fun i hi => cell_keeps HKA.out (by rw [Nat.zero_add]; exact HL.out.cell i (by omega))) (by omega) HKA.out.size ?_; intro g5 c5 w5 hO5 hg5; have hk5 := HKA.out.grown HOA.out (Nat.le_refl _) hg5) | (refine step_srcI rfl (.tmp 47) (.tmp 50) rfl wi.heap.size (wi.heap.size) 0 0 [] _ (by simp [Act.eval]) HOB.out g 0 k c (fun i => l.getD i 0) (by simp [Act.eval]) (fun i hi => cell_keeps HKB.out (by rw [Nat.zero_add]; exact HL.out.cell i (by omega))) (by omega) HKB.out.size ?_; intro g5 c5 w5 hO5 hg5; have hk5 := HKB.out.grown HOB.out (Nat.le_refl _) hg5; have hF5 := HUB.out.grown hg5 (by simp)) | (refine step_srcI rfl (.tmp 47) (.tmp 50) rfl wi.heap.size (wi.heap.size + 1) 0 0 [] _ (by simp [Act.eval]) HOC.out g 0 k c (fun i => l.getD i 0) (by simp [Act.eval]) (fun i hi => cell_keeps HKC.out (by rw [Nat.zero_add]; exact HL.out.cell i (by omega))) (by omega) HKC.out.size ?_; intro g5 c5 w5 hO5 hg5; have hk5 := HKC.out.grown HOC.out (Nat.le_refl _) hg5; have hF5 := HUC.out.grown hg5 (by simp)) | (refine step_oneI rfl (.tmp 51) (.tmp 53) rfl wi.heap.size (some ⟨g5, 0, none⟩) (0 + k) c5 _ _ (by simp [Act.eval]) (hO5.keeps (Keeps.alloc w5 (.cells #[.int .i64 u] 3))) w5.heap.size (u : Int) (Blk.new _ _ _) (by simp [Act.eval]) (by omega) (hk5.step (Keeps.alloc w5 (.cells #[.int .i64 u] 3))).size ?_; intro g7 c7 w7 hO7 hg7; have hk7 := (hk5.step (Keeps.alloc w5 (.cells #[.int .i64 u] 3))).grown (hO5.keeps (Keeps.alloc w5 (.cells #[.int .i64 u] 3))) (Nat.le_refl _) hg7) | (refine step_oneI rfl (.tmp 51) (.tmp 53) rfl wi.heap.size (some ⟨g5, 0, none⟩) (0 + k) c5 _ _ (by simp [Act.eval]) hO5 _ (u : Int) hF5 (by simp [Act.eval]) (by omega) hk5.size ?_; intro g7 c7 w7 hO7 hg7; have hk7 := hk5.grown hO5 (Nat.le_refl _) hg7) | (refine step_srcI rfl (.tmp 54) (.tmp 57) rfl wi.heap.size g7 (0 + k + 1) c7 _ _ (by simp [Act.eval]) hO7 g (k) (k - k) (c - k) (fun i => l.getD (k + i) 0) (by simp [Act.eval]) (fun i hi => cell_keeps hk7 (HL.out.cell (k + i) (by omega))) (by omega) hk7.size ?_; intro g8 c8 w8 hO8 hg8; have hk8 := hk7.grown hO7 (Nat.le_refl _) hg8))
                all_goals
                  have HS8 := Lib.hid (HS.out.keeps hk8)
                  have HL8 := Lib.hid (hO8.mono (lo' := wo.heap.size) hzz)
                  have HKO8 := Lib.hid (HKO.out.step (Gro.ofKeeps hk8))
                  clear hO8 hg8 hk8 hO7 hg7 hk7 hO5 hg5 hk5
                  go_wp2_with fail
                  go_roundw
                  case rel => exact ⟨u + 1, g8, _, c8, _, _, by omega, by go_num, rfl, by omega, by omega, Lib.hid (own_n HL8.out (by omega)), HKO8, HS8⟩
                  case measure => simp [intOf]; omega
            · go_wp2_with fail
              refine (pick_any b q' ((k : Int) + 1) _ HS.out.rd (by omega)).mono ?_
              rintro e w4 ⟨kk, rfl, hkk, hR4, hG4⟩
              have hkk' : kk ≤ k := by omega
              have HL4 := Lib.hid (own_gro HL.out hG4 HS.out.rd)
              have HS4 := Lib.hid (HS.out.gro' hG4 hR4 hbw (by omega))
              have HKO4 := Lib.hid (HKO.out.step hG4)
              clear hR4 hG4 hkk HL HS HKO
              go_upto_region 15 with fail
              have hkk0 : kk ≤ k := by omega
              have hki : (kk : Int) ≤ k := by omega
              have hkci : (k : Int) ≤ c := by omega
              have hkkc : (kk : Int) ≤ c := by omega
              have hzz : wo.heap.size ≤ w4.heap.size := HKO4.out.size
              have HA1 := Lib.hid (OwnInts.made w4 w4.heap.size (Nat.le_refl _))
              have kA := Keeps.alloc w4 (.cells #[] 3)
              have kU := Keeps.alloc w4 (.cells #[.int .i64 u] 3)
              have kAU : Keeps w4 ((w4.alloc (.cells #[] 3)).alloc (.cells #[.int .i64 u] 3)) := kA.step (Keeps.alloc _ _)
              have kUA : Keeps w4 ((w4.alloc (.cells #[.int .i64 u] 3)).alloc (.cells #[] 3)) := kU.step (Keeps.alloc _ _)
              have HOA : Hid (OwnInts (w4.alloc (.cells #[] 3)).drew w4.heap.size (some ⟨w4.heap.size, 0, none⟩) 0 0 []) := Lib.hid ((OwnInts.made w4 w4.heap.size (Nat.le_refl _)).keeps (Keeps.drew1 _))
              have HOB : Hid (OwnInts ((w4.alloc (.cells #[] 3)).alloc (.cells #[.int .i64 u] 3)).drew w4.heap.size (some ⟨w4.heap.size, 0, none⟩) 0 0 []) := Lib.hid (((OwnInts.made w4 w4.heap.size (Nat.le_refl _)).keeps (Keeps.alloc _ _)).keeps (Keeps.drew1 _))
              have HOC : Hid (OwnInts ((w4.alloc (.cells #[.int .i64 u] 3)).alloc (.cells #[] 3)).drew w4.heap.size (some ⟨w4.heap.size + 1, 0, none⟩) 0 0 []) := Lib.hid (by have := (OwnInts.made (w4.alloc (.cells #[.int .i64 u] 3)) w4.heap.size kU.size).keeps (Keeps.drew1 _); rwa [World.size_alloc] at this)
              have HUB : Hid (Blk ((w4.alloc (.cells #[] 3)).alloc (.cells #[.int .i64 u] 3)).drew (w4.heap.size + 1) 3 #[.int .i64 u]) := Lib.hid ((blk_at (by simp) (Blk.new _ _ _)).keeps (Keeps.drew1 _))
              have HUC : Hid (Blk ((w4.alloc (.cells #[.int .i64 u] 3)).alloc (.cells #[] 3)).drew w4.heap.size 3 #[.int .i64 u]) := Lib.hid (((Blk.new _ _ _).keeps (Keeps.alloc _ _)).keeps (Keeps.drew1 _))
              have HKA := Lib.hid (kA.step (Keeps.drew1 _))
              have HKB := Lib.hid (kAU.step (Keeps.drew1 _))
              have HKC := Lib.hid (kUA.step (Keeps.drew1 _))
              clear HA1 kA kU kAU kUA
              by_cases hck : c = kk
              · have hk2 : k = kk := by omega
                obtain rfl : kk = c := hck.symm
                obtain rfl : kk = k := hk2.symm
                go_region_law (first | (refine step_srcI rfl (.tmp 47) (.tmp 50) rfl w4.heap.size (w4.heap.size) 0 0 [] _ (by simp [Act.eval]) HOA.out g 0 kk kk (fun i => l.getD i 0) (by simp [Act.eval]) (fun i hi => cell_keeps HKA.out (by rw [Nat.zero_add]; exact HL4.out.cell i (by omega))) (by omega) HKA.out.size ?_; intro g5 c5 w5 hO5 hg5; have hk5 := HKA.out.grown HOA.out (Nat.le_refl _) hg5) | (refine step_srcI rfl (.tmp 47) (.tmp 50) rfl w4.heap.size (w4.heap.size) 0 0 [] _ (by simp [Act.eval]) HOB.out g 0 kk kk (fun i => l.getD i 0) (by simp [Act.eval]) (fun i hi => cell_keeps HKB.out (by rw [Nat.zero_add]; exact HL4.out.cell i (by omega))) (by omega) HKB.out.size ?_; intro g5 c5 w5 hO5 hg5; have hk5 := HKB.out.grown HOB.out (Nat.le_refl _) hg5; have hF5 := HUB.out.grown hg5 (by simp)) | (refine step_srcI rfl (.tmp 47) (.tmp 50) rfl w4.heap.size (w4.heap.size + 1) 0 0 [] _ (by simp [Act.eval]) HOC.out g 0 kk kk (fun i => l.getD i 0) (by simp [Act.eval]) (fun i hi => cell_keeps HKC.out (by rw [Nat.zero_add]; exact HL4.out.cell i (by omega))) (by omega) HKC.out.size ?_; intro g5 c5 w5 hO5 hg5; have hk5 := HKC.out.grown HOC.out (Nat.le_refl _) hg5; have hF5 := HUC.out.grown hg5 (by simp)) | (refine step_oneI rfl (.tmp 51) (.tmp 53) rfl w4.heap.size (some ⟨g5, 0, none⟩) (0 + kk) c5 _ _ (by simp [Act.eval]) (hO5.keeps (Keeps.alloc w5 (.cells #[.int .i64 u] 3))) w5.heap.size (u : Int) (Blk.new _ _ _) (by simp [Act.eval]) (by omega) (hk5.step (Keeps.alloc w5 (.cells #[.int .i64 u] 3))).size ?_; intro g7 c7 w7 hO7 hg7; have hk7 := (hk5.step (Keeps.alloc w5 (.cells #[.int .i64 u] 3))).grown (hO5.keeps (Keeps.alloc w5 (.cells #[.int .i64 u] 3))) (Nat.le_refl _) hg7) | (refine step_oneI rfl (.tmp 51) (.tmp 53) rfl w4.heap.size (some ⟨g5, 0, none⟩) (0 + kk) c5 _ _ (by simp [Act.eval]) hO5 _ (u : Int) hF5 (by simp [Act.eval]) (by omega) hk5.size ?_; intro g7 c7 w7 hO7 hg7; have hk7 := hk5.grown hO5 (Nat.le_refl _) hg7) | (refine step_srcI rfl (.tmp 54) (.tmp 57) rfl w4.heap.size g7 (0 + kk + 1) c7 _ _ (by simp [Act.eval]) hO7 g 0 (kk - kk) (kk - kk) (fun i => l.getD (kk + i) 0) (by simp [Act.eval]) (fun i hi => absurd hi (by omega)) (by omega) hk7.size ?_; intro g8 c8 w8 hO8 hg8; have hk8 := hk7.grown hO7 (Nat.le_refl _) hg8))
                all_goals
                  have HS8 := Lib.hid (HS4.out.keeps hk8)
                  have HL8 := Lib.hid (hO8.mono (lo' := wo.heap.size) hzz)
                  have HKO8 := Lib.hid (HKO4.out.step (Gro.ofKeeps hk8))
                  clear hO8 hg8 hk8 hO7 hg7 hk7 hO5 hg5 hk5
                  go_wp2_with fail
                  go_roundw
                  case rel => exact ⟨u + 1, g8, _, c8, _, _, by omega, by go_num, rfl, by omega, by omega, Lib.hid (own_n HL8.out (by omega)), HKO8, HS8⟩
                  case measure => simp [intOf]; omega
              · go_region_law (first | (refine step_srcI rfl (.tmp 47) (.tmp 50) rfl w4.heap.size (w4.heap.size) 0 0 [] _ (by simp [Act.eval]) HOA.out g 0 kk c (fun i => l.getD i 0) (by simp [Act.eval]) (fun i hi => cell_keeps HKA.out (by rw [Nat.zero_add]; exact HL4.out.cell i (by omega))) (by omega) HKA.out.size ?_; intro g5 c5 w5 hO5 hg5; have hk5 := HKA.out.grown HOA.out (Nat.le_refl _) hg5) | (refine step_srcI rfl (.tmp 47) (.tmp 50) rfl w4.heap.size (w4.heap.size) 0 0 [] _ (by simp [Act.eval]) HOB.out g 0 kk c (fun i => l.getD i 0) (by simp [Act.eval]) (fun i hi => cell_keeps HKB.out (by rw [Nat.zero_add]; exact HL4.out.cell i (by omega))) (by omega) HKB.out.size ?_; intro g5 c5 w5 hO5 hg5; have hk5 := HKB.out.grown HOB.out (Nat.le_refl _) hg5; have hF5 := HUB.out.grown hg5 (by simp)) | (refine step_srcI rfl (.tmp 47) (.tmp 50) rfl w4.heap.size (w4.heap.size + 1) 0 0 [] _ (by simp [Act.eval]) HOC.out g 0 kk c (fun i => l.getD i 0) (by simp [Act.eval]) (fun i hi => cell_keeps HKC.out (by rw [Nat.zero_add]; exact HL4.out.cell i (by omega))) (by omega) HKC.out.size ?_; intro g5 c5 w5 hO5 hg5; have hk5 := HKC.out.grown HOC.out (Nat.le_refl _) hg5; have hF5 := HUC.out.grown hg5 (by simp)) | (refine step_oneI rfl (.tmp 51) (.tmp 53) rfl w4.heap.size (some ⟨g5, 0, none⟩) (0 + kk) c5 _ _ (by simp [Act.eval]) (hO5.keeps (Keeps.alloc w5 (.cells #[.int .i64 u] 3))) w5.heap.size (u : Int) (Blk.new _ _ _) (by simp [Act.eval]) (by omega) (hk5.step (Keeps.alloc w5 (.cells #[.int .i64 u] 3))).size ?_; intro g7 c7 w7 hO7 hg7; have hk7 := (hk5.step (Keeps.alloc w5 (.cells #[.int .i64 u] 3))).grown (hO5.keeps (Keeps.alloc w5 (.cells #[.int .i64 u] 3))) (Nat.le_refl _) hg7) | (refine step_oneI rfl (.tmp 51) (.tmp 53) rfl w4.heap.size (some ⟨g5, 0, none⟩) (0 + kk) c5 _ _ (by simp [Act.eval]) hO5 _ (u : Int) hF5 (by simp [Act.eval]) (by omega) hk5.size ?_; intro g7 c7 w7 hO7 hg7; have hk7 := hk5.grown hO5 (Nat.le_refl _) hg7) | (refine step_srcI rfl (.tmp 54) (.tmp 57) rfl w4.heap.size g7 (0 + kk + 1) c7 _ _ (by simp [Act.eval]) hO7 g (kk) (k - kk) (c - kk) (fun i => l.getD (kk + i) 0) (by simp [Act.eval]) (fun i hi => cell_keeps hk7 (HL4.out.cell (kk + i) (by omega))) (by omega) hk7.size ?_; intro g8 c8 w8 hO8 hg8; have hk8 := hk7.grown hO7 (Nat.le_refl _) hg8))
                all_goals
                  have HS8 := Lib.hid (HS4.out.keeps hk8)
                  have HL8 := Lib.hid (hO8.mono (lo' := wo.heap.size) hzz)
                  have HKO8 := Lib.hid (HKO4.out.step (Gro.ofKeeps hk8))
                  clear hO8 hg8 hk8 hO7 hg7 hk7 hO5 hg5 hk5
                  go_wp2_with fail
                  go_roundw
                  case rel => exact ⟨u + 1, g8, _, c8, _, _, by omega, by go_num, rfl, by omega, by omega, Lib.hid (own_n HL8.out (by omega)), HKO8, HS8⟩
                  case measure => simp [intOf]; omega
        · obtain rfl : u = m := by omega
          have b0 : wi.cell? ⟨w.heap.size + 1, 0, none⟩ = some (.slice A v cA) := by rw [HS.out.v.cell]; rfl
          have f0 := HS.out.v.frozen 0
          have zV := HS.out.v.lt
          have hsz := HS.out.gro.size
          have hk7 : k ≤ 7 := by omega
          go_wp2_with (first | (at_builtin; refine wp_netRowG rfl _ _ rfl w.heap.size b q A B v cA v cB wo wi rfl HSO.out.net HKO.out HSO.out.rd (some ⟨g, 0, none⟩) k c l HL.out hk7 hlow rfl (by omega) ?_; intro g6 c6 w6 hO6 hg6; have hV6 := HS.out.net.blkA hg6 HS.out.v (by decide); have s6 : w6.cell? ⟨w.heap.size + 1, 0, none⟩ = some (.slice A v cA) := (by rw [hV6.cell]; rfl); have f6 := hV6.frozen 0; have zV6 := hV6.lt))
          have hR6 := HS.out.net.blkA hg6 HS.out.r (by decide)
          have hRd6 : Rd w6 b q' := HS.out.rd.grown hg6 (fun x hx => Nat.lt_of_lt_of_le hbw (HS.out.net.alo x hx))
          have hG6 : Gro b w w6 := HS.out.gro.above hg6 HS.out.net.alo
          have HS7 : Hid (NetB b w.heap.size w.heap.size (w.heap.size + 1) (v + 1) v q' w (some ⟨g6, 0, none⟩) c6 B cB (w6.setCell ⟨w.heap.size + 1, 0, none⟩ (.slice (some ⟨g6, 0, none⟩) (v + 1) c6))) := Lib.hid ⟨hR6.set_other _ _ (by simp), hV6.set 0 _, hO6.grown (grown_set _ _ _ _) hV6 (by decide) (by decide), hRd6.set_other (by omega) _, hG6.setAbove (by omega) _⟩
          generalize w6.setCell ⟨w.heap.size + 1, 0, none⟩ (.slice (some ⟨g6, 0, none⟩) (v + 1) c6) = w7 at *
          clear hR6 hRd6 hG6 hV6 s6 f6 zV6 hO6 hg6 b0 f0 zV HS HL HKO HSO
          have b1 : w7.cell? ⟨w.heap.size + 1, 1, none⟩ = some (.slice B v cB) := by rw [HS7.out.v.cell]; rfl
          have f1 := HS7.out.v.frozen 1
          have zV := HS7.out.v.lt
          have hwm : IntKind.i64.wrap (mk + 1) = mk + 1 := by rw [IntKind.wrap_i64]; omega
          go_wp2_with fail
          go_region_law (first | (refine step_go 44 #[.tmp 67, .tmp 69] #[44, 3] rfl rfl (fun _ _ => rfl) (by simp [Act.eval, Act.put]) (pick_any b q' (mk + 1) _ (HS7.out.rd.gro (Keeps.drew1 _)) (by omega)) ?_; rintro e w8 ⟨y, rfl, hy, hR8, hG8⟩; refine ⟨_, rfl, ?_⟩; have HS8 := Lib.hid ((HS7.out.keeps (Keeps.drew1 _)).gro' hG8 hR8 hbw (by omega)); have HS9 := Lib.hid (HS8.out.keeps (Keeps.alloc w8 (.cells #[.int .i64 y] 3))); have s8 : w8.cell? ⟨w.heap.size + 1, 1, none⟩ = some (.slice B v cB) := (by rw [HS8.out.v.cell]; rfl); have zV8 := HS8.out.v.lt) | (refine step_netMark rfl (.tmp 66) (.tmp 71) rfl w.heap.size _ B (v + 1) c6 v cB _ (by simp [Act.eval]) HS9.out.net _ _ (Blk.new _ _ _) (by simp [Act.eval]) (by omega) HS9.out.gro.size ?_; intro g9 c9 w9 hO9 hg9; have hV9 := HS9.out.net.blkB hg9 HS9.out.v (by decide); have s9 : w9.cell? ⟨w.heap.size + 1, 1, none⟩ = some (.slice B v cB) := (by rw [hV9.cell]; rfl); have f9 := hV9.frozen 1))
          all_goals
            have hR9 := HS9.out.net.blkB hg9 HS9.out.r (by decide)
            have hRd9 : Rd w9 b (q' + 1) := HS9.out.rd.grown hg9 (fun x hx => Nat.lt_of_lt_of_le hbw (HS9.out.net.blo x hx))
            have hG9 : Gro b w w9 := HS9.out.gro.above hg9 HS9.out.net.blo
            have HS10 : Hid (NetB b w.heap.size w.heap.size (w.heap.size + 1) (v + 1) (v + 1) (q' + 1) w (some ⟨g6, 0, none⟩) c6 (some ⟨g9, 0, none⟩) c9 (w9.setCell ⟨w.heap.size + 1, 1, none⟩ (.slice (some ⟨g9, 0, none⟩) (v + 1) c9))) := Lib.hid ⟨hR9.set_other _ _ (by simp), hV9.set 1 _, hO9.grown (grown_set _ _ _ _) hV9 (by decide) (by decide), hRd9.set_other (by omega) _, hG9.setAbove (by omega) _⟩
            clear hR9 hRd9 hG9 hV9 hO9 hg9
            go_wp2_with fail
            go_roundw
            case rel => exact ⟨v + 1, q' + 1, _, c6, _, c9, by omega, by go_num, by omega, HS10⟩
            case measure => simp [intOf]; omega
    · obtain rfl : v = m := by omega
      have b0 : wo.cell? ⟨w.heap.size + 1, 0, none⟩ = some (.slice A v cA) := by rw [HS.out.v.cell]; rfl
      have b1 : wo.cell? ⟨w.heap.size + 1, 1, none⟩ = some (.slice B v cB) := by rw [HS.out.v.cell]; rfl
      have c0 : wo.cell? ⟨w.heap.size, 0, none⟩ = some (.slice none 0 0) := by rw [HS.out.r.cell]; rfl
      have c1 : wo.cell? ⟨w.heap.size, 1, none⟩ = some (.slice none 0 0) := by rw [HS.out.r.cell]; rfl
      have f0 := HS.out.r.frozen 0
      have f1 := HS.out.r.frozen 1
      have hR := HS.out.r
      have hR2 := hR.set 0 (.slice A v cA)
      go_wp2_with fail
      have k1 := (hR2.set 1 (.slice B v cB)).cell 0
      have k2 := (hR2.set 1 (.slice B v cB)).cell 1
      refine bodyPost_ret (v := .agg #[.slice A v cA, .slice B v cB]) (by simp [results, Try.results85, go_sem, k1, k2]) rfl ⟨v, q, A, B, cA, cB, rfl, ?_, hm1, hm, (HS.out.rd.set_other (by omega) _).set_other (by omega) _, by omega, (HS.out.gro.setAbove (Nat.le_refl _) _).setAbove (Nat.le_refl _) _⟩
      exact (HS.out.net.grown (grown_set _ _ _ _) hR (by decide) (by decide)).grown (grown_set _ _ _ _) hR2 (by decide) (by decide)
end Go.Proofs.Ytdjilgbcpdlkfaa
