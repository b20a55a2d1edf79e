/-
  The contract of RingOf of the program: a ring in new memory, or nothing. No condition.
-/
import Derived.Test.YtdjilgbcpdlkfaaRingN
import Derived.Test.YtdjilgbcpdlkfaaClone
import Derived.Deep.RegionHeld3
import Derived.Deep.CutBlock
import Derived.Deep.DeepCutAuto
namespace Go.Proofs.Ytdjilgbcpdlkfaa
open Go.RowKit

/-- A ring whose marks are cut to their length, or nothing. -/
def GiveRingI (m : Nat) (M : Nat → Int) (w : World) (e : Ending) (w' : World) : Prop :=
  (ringOkB m M = false ∧ e = .returned (.tuple #[.agg #[.slice none 0 0, .slice none 0 0], .bool false]) ∧ Keeps w w') ∨
  (ringOkB m M = true ∧ ∃ (A B : Option Addr) (c d : Nat) (r : Nat → Option Addr × Nat × Nat), e = .returned (.tuple #[.agg #[.slice A m c, .slice B m d], .bool true]) ∧ NetAt w' A m r B m (fun _ => 2) (ringX m) M ∧ Keeps w w')
/-- A ring under way. -/
structure RingJ (w : World) (lo R V g cB m n : Nat) (A : Option Addr) (cA : Nat) (M : Nat → Int) (wx : World) : Prop where
  r : Blk wx R 27 #[.slice none 0 0, .slice none 0 0]
  v : Blk wx V 27 #[.slice A n cA, .slice (some ⟨g, 0, none⟩) m m]
  rows : OwnRows wx lo A n cA (ringR m n)
  marks : OwnInts wx lo (some ⟨g, 0, none⟩) m cB (il m M)
  kp : Keeps w wx
theorem old_cells {w w' : World} (k : Keeps w w') : (∀ b o, b < w.heap.size → w'.cell? ⟨b, o, none⟩ = w.cell? ⟨b, o, none⟩) ∧ (∀ b o, b < w.heap.size → w'.frozen? ⟨b, o, none⟩ = w.frozen? ⟨b, o, none⟩) :=
  ⟨fun b o h => k.cell (p := ⟨b, o, none⟩) h, fun b o h => k.frozen (p := ⟨b, o, none⟩) h⟩
theorem blk_two {w : World} {V : Nat} {T : TypeId} (h : Blk w V T #[.slice none 0 0, .slice none 0 0]) (u v : Value) : Blk ((w.setCell ⟨V, 0, none⟩ u).setCell ⟨V, 1, none⟩ v) V T #[u, v] := (h.set 0 u).set 1 v
theorem own_rows0 {w : World} {lo g m : Nat} (h : Blk w g 23 (madeCells #[.slice none 0 0] m)) (hlo : lo ≤ g) (hm : m ≤ 1099511627776) : OwnRows w lo (some ⟨g, 0, none⟩) 0 m [] :=
  ⟨[], ⟨by simp, .inr ⟨g, m, _, rfl, hlo, h, Nat.zero_le _, by unfold maxLen; omega, by simp [size_madeCells], by simp⟩⟩, rfl, fun _ hi => absurd hi (Nat.not_lt_zero _)⟩
theorem ring_start (V gA gB cB m : Nat) (M : Nat → Int) (w wx : World) (hm : m ≤ 1099511627776) (hv : Blk wx V 27 #[.slice (some ⟨gA, 0, none⟩) 0 m, .slice (some ⟨gB, 0, none⟩) m m]) (hV : w.heap.size < V) (hr : Blk wx w.heap.size 27 #[.slice none 0 0, .slice none 0 0]) (hA : Blk wx gA 23 (madeCells #[.slice none 0 0] m)) (hA1 : w.heap.size ≤ gA) (hM : OwnInts wx w.heap.size (some ⟨gB, 0, none⟩) m cB (il m M)) (hk : Keeps w wx) :
    ∃ (V' gA' gB' cB' : Nat), w.heap.size < V' ∧ Value.pointer (some ⟨V, 0, none⟩) = .pointer (some ⟨V', 0, none⟩) ∧ Hid (RingJ w w.heap.size w.heap.size V' gB' cB' m 0 (some ⟨gA', 0, none⟩) m M wx) :=
  ⟨V, gA, gB, cB, hV, rfl, Lib.hid ⟨hr, hv, own_rows0 hA hA1 hm, hM, hk⟩⟩
theorem make_rows0 (m : Nat) (hm : m ≤ 1099511627776) (w : World) : (Instr.makeSlice 25 (.int .i64 0) (.int .i64 m)).run Try.prog w = .ok (.slice (some ⟨w.heap.size, 0, none⟩) 0 m) (w.alloc (.cells (madeCells #[.slice none 0 0] m) 23)) := by
  obtain ⟨i0, hi, hz0, hz1, hz2⟩ := info_parts info_ints
  have := run_make (P := Try.prog) (w := w) 25 23 i0 _ Try.underlying25 hi hz0 .i64 .i64 0 m (by omega) (by omega) (by rw [hz2]; omega) (by omega)
  rw [this, hz1]
  simp
  rfl
set_option maxRecDepth 100000 in
set_option maxHeartbeats 16000000 in
theorem iRingOf_any (a : Option Addr) (m c : Nat) (M : Nat → Int) (w : World) (hm : m ≤ 1099511627776) (hI : Ints w a m M) :
    Calls Try.prog 13 #[.slice a m c] w (GiveRingI m M w) := by
  have hmr := make_rows0 m hm
  have hR := Blk.new w #[.slice none 0 0, .slice none 0 0] 27
  have k1 := Keeps.alloc w (.cells #[.slice none 0 0, .slice none 0 0] 27)
  cases v1 : inB m 3 6
  · have HV : Hid (ringOkB m M = false) := Lib.hid (by unfold ringOkB; rw [v1]; rfl)
    have CIR : Hid (∀ w, Calls Try.prog 47 #[.int .i64 m, .int .i64 3, .int .i64 6] w fun e w' => e = .returned (.bool false) ∧ w = w') := Lib.hid (fun w => by rw [← v1]; exact within_any _ _ _ w)
    clear v1 hI
    go_enter Try.func13, Try.ntmps13
    go_wp2_with fail
    refine (CIR.out _).mono ?_
    rintro e w1 ⟨rfl, rfl⟩
    have e0 : (w.alloc (.cells #[.slice none 0 0, .slice none 0 0] 27)).cell? ⟨w.heap.size, 0, none⟩ = some (.slice none 0 0) := hR.cell 0
    have e1 : (w.alloc (.cells #[.slice none 0 0, .slice none 0 0] 27)).cell? ⟨w.heap.size, 1, none⟩ = some (.slice none 0 0) := hR.cell 1
    go_wp2_with fail
    refine bodyPost_ret (v := .tuple #[.agg #[.slice none 0 0, .slice none 0 0], .bool false]) (by simp [results, Try.results13, go_sem, e0, e1]) rfl (.inl ⟨HV.out, rfl, Keeps.alloc _ _⟩)
  · have h36 := inB_true v1
    have CIR : Hid (∀ w, Calls Try.prog 47 #[.int .i64 m, .int .i64 3, .int .i64 6] w fun e w' => e = .returned (.bool true) ∧ w = w') := Lib.hid (fun w => by rw [← v1]; exact within_any _ _ _ w)
    have HRB : Hid (ringOkB m M = !anyB (fun i => !inB (M i) 0 20) m) := Lib.hid (by unfold ringOkB; rw [v1]; rfl)
    have CM := Lib.hid (marksOk_any a m c M _ hm (fun i hi => (hI.keeps k1) i hi))
    obtain ⟨ba, oa, rfl, _⟩ := hI 0 (by omega)
    have HZ : Hid (∀ i, i < m → (w.alloc (.cells #[.slice none 0 0, .slice none 0 0] 27)).cell? ⟨ba, oa + i, none⟩ = some (.int .i64 (M i))) := Lib.hid (fun i hi => by
      obtain ⟨_, _, e, hc⟩ := hI i hi
      cases e
      exact cell_keeps k1 hc)
    clear v1 hI
    cases hmk : anyB (fun i => !inB (M i) 0 20) m
    · rw [hmk] at HRB CM
      clear hmk
      go_enter Try.func13, Try.ntmps13
      go_wp2_with fail
      refine (CIR.out _).mono ?_
      rintro e w1 ⟨rfl, rfl⟩
      go_wp2_with fail
      refine CM.out.mono ?_
      rintro e w1 ⟨rfl, hk1⟩
      have HZ1 : Hid (∀ i, i < m → w1.cell? ⟨ba, oa + i, none⟩ = some (.int .i64 (M i))) := Lib.hid (fun i hi => cell_keeps hk1 (HZ.out i hi))
      have HR1 := Lib.hid (hR.keeps hk1)
      have HK1 := Lib.hid (k1.step hk1)
      clear hk1 HZ k1 hR
      go_upto_region 5 with fail
      go_cut [5] (fun s wx => ∃ (V gA gB cB : Nat), w.heap.size < V ∧ s = .pointer (some ⟨V, 0, none⟩) ∧ Hid (RingJ w w.heap.size w.heap.size V gB cB m 0 (some ⟨gA, 0, none⟩) m M wx))
      case first =>
        have hwz := HR1.out.lt
        go_region_held3 (fun w' => Keeps w1 w') (first | exact g0.step hk5 | exact Keeps.drew1 _ | ((repeat (first | exact gk5 | exact Keeps.drew1 _ | exact Keeps.alloc _ _ | refine Below.setCell ?_ (by dsimp only; omega) _ | refine Keeps.step ?_ (Keeps.drew1 _) | refine Keeps.step ?_ (Keeps.alloc _ _))); done) | go_keep) (first | (go_at_call 50; have g0 : Keeps w1 _ := (by assumption); refine (slClone_any ba oa m c M _ (by omega) (by omega) (fun i hi => cell_keeps g0 (HZ1.out i hi))).mono ?_; rintro e w5 ⟨g5, c5, rfl, hO5, hk5⟩; have gk5 := g0.step hk5; obtain ⟨hcc, hff⟩ := old_cells hk5; have hzz := hk5.size; simp only [World.size_alloc, World.size_drew] at hzz; (try have hz1 : w1.heap.size < w5.heap.size := (by omega)); (try have hz2 : w1.heap.size + 1 < w5.heap.size := (by omega))) | (go_at_call 49; refine (slClip_any _ _ _ _ (own_clip hO5).1).mono ?_; rintro e w6 ⟨rfl, rfl⟩))
        all_goals
          have hg5 := hO5.block
          simp only [World.size_alloc, World.size_drew] at hg5
          have HO5 := Lib.hid hO5
          clear hO5 hcc hff
          go_wp2_with fail
          go_meet
          first
           | (refine ring_start _ (w1.heap.size) g5 c5 m M w _ hm ?_ ?_ ?_ ?_ ?_ ?_ ?_; (focus ((repeat (first | exact Blk.new _ _ _ | exact blk_at (by simp) (Blk.new _ _ _) | refine Blk.keeps ?_ (Keeps.drew1 _) | refine Blk.keeps ?_ (Keeps.alloc _ _) | refine Blk.keeps ?_ hk5 | refine blk_two ?_ _ _)); done)); (focus omega); (focus ((repeat (first | exact HR1.out | refine Blk.set_other ?_ _ _ (by dsimp only; omega) | refine Blk.keeps ?_ (Keeps.drew1 _) | refine Blk.keeps ?_ (Keeps.alloc _ _) | refine Blk.keeps ?_ hk5)); done)); (focus ((repeat (first | exact Blk.new _ _ _ | exact blk_at (by simp) (Blk.new _ _ _) | refine Blk.keeps ?_ (Keeps.drew1 _) | refine Blk.keeps ?_ (Keeps.alloc _ _) | refine Blk.keeps ?_ hk5 | refine Blk.set_other ?_ _ _ (by dsimp only; omega))); done)); (focus omega); (focus ((repeat (first | exact HO5.out.mono (by simp; omega) | refine OwnInts.set_other ?_ _ _ _ (by omega) | refine OwnInts.keeps ?_ (Keeps.drew1 _) | refine OwnInts.keeps ?_ (Keeps.alloc _ _))); done)); (focus ((repeat (first | exact HK1.out.step gk5 | refine Below.setCell ?_ (by dsimp only; omega) _ | refine Keeps.step ?_ (Keeps.drew1 _) | refine Keeps.step ?_ (Keeps.alloc _ _))); done)))
           | (refine ring_start _ (w1.heap.size + 1) g5 c5 m M w _ hm ?_ ?_ ?_ ?_ ?_ ?_ ?_; (focus ((repeat (first | exact Blk.new _ _ _ | exact blk_at (by simp) (Blk.new _ _ _) | refine Blk.keeps ?_ (Keeps.drew1 _) | refine Blk.keeps ?_ (Keeps.alloc _ _) | refine Blk.keeps ?_ hk5 | refine blk_two ?_ _ _)); done)); (focus omega); (focus ((repeat (first | exact HR1.out | refine Blk.set_other ?_ _ _ (by dsimp only; omega) | refine Blk.keeps ?_ (Keeps.drew1 _) | refine Blk.keeps ?_ (Keeps.alloc _ _) | refine Blk.keeps ?_ hk5)); done)); (focus ((repeat (first | exact Blk.new _ _ _ | exact blk_at (by simp) (Blk.new _ _ _) | refine Blk.keeps ?_ (Keeps.drew1 _) | refine Blk.keeps ?_ (Keeps.alloc _ _) | refine Blk.keeps ?_ hk5 | refine Blk.set_other ?_ _ _ (by dsimp only; omega))); done)); (focus omega); (focus ((repeat (first | exact HO5.out.mono (by simp; omega) | refine OwnInts.set_other ?_ _ _ _ (by omega) | refine OwnInts.keeps ?_ (Keeps.drew1 _) | refine OwnInts.keeps ?_ (Keeps.alloc _ _))); done)); (focus ((repeat (first | exact HK1.out.step gk5 | refine Below.setCell ?_ (by dsimp only; omega) _ | refine Keeps.step ?_ (Keeps.drew1 _) | refine Keeps.step ?_ (Keeps.alloc _ _))); done)))
           | (refine ring_start _ (w5.heap.size) g5 c5 m M w _ hm ?_ ?_ ?_ ?_ ?_ ?_ ?_; (focus ((repeat (first | exact Blk.new _ _ _ | exact blk_at (by simp) (Blk.new _ _ _) | refine Blk.keeps ?_ (Keeps.drew1 _) | refine Blk.keeps ?_ (Keeps.alloc _ _) | refine Blk.keeps ?_ hk5 | refine blk_two ?_ _ _)); done)); (focus omega); (focus ((repeat (first | exact HR1.out | refine Blk.set_other ?_ _ _ (by dsimp only; omega) | refine Blk.keeps ?_ (Keeps.drew1 _) | refine Blk.keeps ?_ (Keeps.alloc _ _) | refine Blk.keeps ?_ hk5)); done)); (focus ((repeat (first | exact Blk.new _ _ _ | exact blk_at (by simp) (Blk.new _ _ _) | refine Blk.keeps ?_ (Keeps.drew1 _) | refine Blk.keeps ?_ (Keeps.alloc _ _) | refine Blk.keeps ?_ hk5 | refine Blk.set_other ?_ _ _ (by dsimp only; omega))); done)); (focus omega); (focus ((repeat (first | exact HO5.out.mono (by simp; omega) | refine OwnInts.set_other ?_ _ _ _ (by omega) | refine OwnInts.keeps ?_ (Keeps.drew1 _) | refine OwnInts.keeps ?_ (Keeps.alloc _ _))); done)); (focus ((repeat (first | exact HK1.out.step gk5 | refine Below.setCell ?_ (by dsimp only; omega) _ | refine Keeps.step ?_ (Keeps.drew1 _) | refine Keeps.step ?_ (Keeps.alloc _ _))); done)))
           | (refine ring_start _ (w5.heap.size + 1) g5 c5 m M w _ hm ?_ ?_ ?_ ?_ ?_ ?_ ?_; (focus ((repeat (first | exact Blk.new _ _ _ | exact blk_at (by simp) (Blk.new _ _ _) | refine Blk.keeps ?_ (Keeps.drew1 _) | refine Blk.keeps ?_ (Keeps.alloc _ _) | refine Blk.keeps ?_ hk5 | refine blk_two ?_ _ _)); done)); (focus omega); (focus ((repeat (first | exact HR1.out | refine Blk.set_other ?_ _ _ (by dsimp only; omega) | refine Blk.keeps ?_ (Keeps.drew1 _) | refine Blk.keeps ?_ (Keeps.alloc _ _) | refine Blk.keeps ?_ hk5)); done)); (focus ((repeat (first | exact Blk.new _ _ _ | exact blk_at (by simp) (Blk.new _ _ _) | refine Blk.keeps ?_ (Keeps.drew1 _) | refine Blk.keeps ?_ (Keeps.alloc _ _) | refine Blk.keeps ?_ hk5 | refine Blk.set_other ?_ _ _ (by dsimp only; omega))); done)); (focus omega); (focus ((repeat (first | exact HO5.out.mono (by simp; omega) | refine OwnInts.set_other ?_ _ _ _ (by omega) | refine OwnInts.keeps ?_ (Keeps.drew1 _) | refine OwnInts.keeps ?_ (Keeps.alloc _ _))); done)); (focus ((repeat (first | exact HK1.out.step gk5 | refine Below.setCell ?_ (by dsimp only; omega) _ | refine Keeps.step ?_ (Keeps.drew1 _) | refine Keeps.step ?_ (Keeps.alloc _ _))); done)))
      case rest =>
        obtain ⟨V, g0, g, cB, hVR, rfl, HS0⟩ := hcut
        have HVR := Lib.hid hVR
        clear hVR
        go_wp2_with fail
        go_loopw [25] (fun i wr => ∃ (v : Nat) (A : Option Addr) (cA : Nat), v ≤ m ∧ i = .int .i64 v ∧ Hid (RingJ w w.heap.size w.heap.size V g cB m v A cA M wr)) (fun i _ => m - (intOf i).toNat)
        case atStart => exact ⟨0, _, m, by omega, rfl, HS0⟩
        case round =>
          clear HS0
          obtain ⟨v, A, cA, hv, rfl, HS⟩ := hrel
          have b0 : wr.cell? ⟨V, 0, none⟩ = some (.slice A v cA) := by rw [HS.out.v.cell]; rfl
          have b1 : wr.cell? ⟨V, 1, none⟩ = some (.slice (some ⟨g, 0, none⟩) m m) := by rw [HS.out.v.cell]; rfl
          have f0 := HS.out.v.frozen 0
          have zV := HS.out.v.lt
          by_cases hlt : v < m
          · have hvi : (v : Int) < m := by omega
            have hm0 : ((m : Int) == 0) = false := by simp; omega
            have hm00 : ¬ m = 0 := by omega
            have hw1 : IntKind.i64.wrap ((v : Int) + m) = (v : Int) + m := by rw [IntKind.wrap_i64]; omega
            have hw2 : IntKind.i64.wrap ((v : Int) + m - 1) = (v : Int) + m - 1 := by rw [IntKind.wrap_i64]; omega
            have hw3 : IntKind.i64.wrap ((v : Int) + 1) = (v : Int) + 1 := by rw [IntKind.wrap_i64]; omega
            obtain ⟨x0, hx0⟩ : ∃ x0, x0 = ringX m v 0 := ⟨_, rfl⟩
            obtain ⟨x1, hx1⟩ : ∃ x1, x1 = ringX m v 1 := ⟨_, rfl⟩
            have ht0 : Int.tmod ((v : Int) + m - 1) m = x0 := by
              rw [hx0, Int.tmod_eq_emod_of_nonneg (by omega)]
              show _ = (((v + m - 1) % m : Nat) : Int)
              rw [Int.natCast_emod]
              congr 1
              omega
            have ht1 : Int.tmod ((v : Int) + 1) m = x1 := by
              rw [hx1, Int.tmod_eq_emod_of_nonneg (by omega)]
              show _ = (((v + 1) % m : Nat) : Int)
              rw [Int.natCast_emod]
              congr 1
            have HX : Hid ([x0, x1] = [ringX m v 0, ringX m v 1]) := Lib.hid (by rw [hx0, hx1])
            have hr0 : 0 ≤ x0 ∧ x0 ≤ 6 := by
              rw [hx0]
              show 0 ≤ (((v + m - 1) % m : Nat) : Int) ∧ (((v + m - 1) % m : Nat) : Int) ≤ 6
              have := Nat.mod_lt (v + m - 1) (show 0 < m by omega)
              omega
            have hr1 : 0 ≤ x1 ∧ x1 ≤ 6 := by
              rw [hx1]
              show 0 ≤ (((v + 1) % m : Nat) : Int) ∧ (((v + 1) % m : Nat) : Int) ≤ 6
              have := Nat.mod_lt (v + 1) (show 0 < m by omega)
              omega
            have hwx0 : IntKind.i64.wrap x0 = x0 := by rw [IntKind.wrap_i64]; omega
            have hwx1 : IntKind.i64.wrap x1 = x1 := by rw [IntKind.wrap_i64]; omega
            clear hx0 hx1
            have q1 := Keeps.alloc wr (.cells #[.int .i64 x0, .int .i64 x1] 3)
            have q2 := Keeps.alloc (wr.alloc (.cells #[.int .i64 x0, .int .i64 x1] 3)) (.cells #[.slice (some ⟨wr.heap.size, 0, none⟩) 2 2] 23)
            have qq : Keeps wr ((wr.alloc (.cells #[.int .i64 x0, .int .i64 x1] 3)).alloc (.cells #[.slice (some ⟨wr.heap.size, 0, none⟩) 2 2] 23)).drew := (q1.step q2).step (Keeps.drew1 _)
            have HO4 := Lib.hid (HS.out.rows.keeps qq)
            have HI4 : Hid (OwnInts ((wr.alloc (.cells #[.int .i64 x0, .int .i64 x1] 3)).alloc (.cells #[.slice (some ⟨wr.heap.size, 0, none⟩) 2 2] 23)).drew wr.heap.size (some ⟨wr.heap.size, 0, none⟩) 2 2 [x0, x1]) := Lib.hid (own_blk (((Blk.new wr _ _).keeps q2).keeps (Keeps.drew1 _)) rfl (Nat.le_refl _) rfl (by omega))
            have HB4 : Hid (Blk ((wr.alloc (.cells #[.int .i64 x0, .int .i64 x1] 3)).alloc (.cells #[.slice (some ⟨wr.heap.size, 0, none⟩) 2 2] 23)).drew (wr.heap.size + 1) 23 #[.slice (some ⟨wr.heap.size, 0, none⟩) 2 2]) := Lib.hid ((blk_at (by simp) (Blk.new _ _ _)).keeps (Keeps.drew1 _))
            have HV4 := Lib.hid (HS.out.v.keeps qq)
            have HZ4 := Lib.hid (HS.out.kp.step qq).size
            have HK4 := Lib.hid (HS.out.kp.step qq)
            have HR4 := Lib.hid (HS.out.r.keeps qq)
            have HM4 := Lib.hid (HS.out.marks.keeps qq)
            clear q1 q2 qq
            go_wp2_with fail
            go_region_law (first | (refine step_oneR rfl (.tmp 29) (.tmp 41) rfl w.heap.size A v cA (ringR m v) _ (by simp [Act.eval]) HO4.out wr.heap.size (some ⟨wr.heap.size, 0, none⟩) 2 2 [x0, x1] HI4.out HS.out.kp.size (wr.heap.size + 1) HB4.out (by simp [Act.eval]) (by omega) HZ4.out ?_; intro g6 c6 w6 hO6 hg6 _; have hV6 := OwnRows.blk HO4.out hg6 HV4.out (by decide); have s6 : w6.cell? ⟨V, 0, none⟩ = some (.slice A v cA) := (by rw [hV6.cell]; rfl); have f6 := hV6.frozen 0))
            all_goals
              have hR6 := OwnRows.blk HO4.out hg6 HR4.out (by decide)
              have hK6 := OwnRows.keepsAll HO4.out HK4.out (Nat.le_refl _) hg6
              have hM6 : OwnInts w6 w.heap.size (some ⟨g, 0, none⟩) m cB (il m M) := own_kept HM4.out hg6 (own_type HM4.out HO4.out.choose_spec.1 (by decide))
              have HS6 : Hid (RingJ w w.heap.size w.heap.size V g cB m (v + 1) (some ⟨g6, 0, none⟩) c6 M (w6.setCell ⟨V, 0, none⟩ (.slice (some ⟨g6, 0, none⟩) (v + 1) c6))) := Lib.hid ⟨hR6.set_other _ _ (by have := HVR.out; simp; omega), hV6.set 0 _, by
                rw [HX.out, ringR_next] at hO6
                exact hO6.grown (grown_set _ _ _ _) hV6 (by decide) (by decide), hM6.grown (grown_set _ _ _ _) hV6 (by decide), hK6.setCell (by have := HVR.out; simp; omega) _⟩
              clear hO6 hg6 hV6 hR6 hK6 hM6
              go_wp2_with fail
              go_roundw
              case rel => exact ⟨v + 1, _, c6, by omega, by go_num, HS6⟩
              case measure => simp [intOf]; omega
          · obtain rfl : v = m := by omega
            have v1 : wr.cell? ⟨V, 1, none⟩ = some (.slice (some ⟨g, 0, none⟩) v v) := by rw [HS.out.v.cell]; rfl
            have c0 : wr.cell? ⟨w.heap.size, 0, none⟩ = some (.slice none 0 0) := by rw [HS.out.r.cell]; rfl
            have c1 : wr.cell? ⟨w.heap.size, 1, none⟩ = some (.slice none 0 0) := by rw [HS.out.r.cell]; rfl
            have f0 := HS.out.r.frozen 0
            have f1 := HS.out.r.frozen 1
            have zR := HS.out.r.lt
            have hR2 := HS.out.r.set 0 (.slice A v cA)
            go_wp2_with fail
            have k1 := (hR2.set 1 (.slice (some ⟨g, 0, none⟩) v v)).cell 0
            have k2 := (hR2.set 1 (.slice (some ⟨g, 0, none⟩) v v)).cell 1
            have hO2 := (HS.out.rows.grown (grown_set wr w.heap.size 0 (.slice A v cA)) HS.out.r (by decide) (by decide)).grown (grown_set _ w.heap.size 1 (.slice (some ⟨g, 0, none⟩) v v)) hR2 (by decide) (by decide)
            have hM2 := (HS.out.marks.grown (grown_set wr w.heap.size 0 (.slice A v cA)) HS.out.r (by decide)).grown (grown_set _ w.heap.size 1 (.slice (some ⟨g, 0, none⟩) v v)) hR2 (by decide)
            obtain ⟨r, hN⟩ := ring_netNew hO2 hM2 hm
            refine bodyPost_ret (v := .tuple #[.agg #[.slice A v cA, .slice (some ⟨g, 0, none⟩) v v], .bool true]) (by simp [results, Try.results13, go_sem, k1, k2]) rfl (.inr ⟨HRB.out, A, _, cA, v, r, rfl, hN.net, (HS.out.kp.setCell (Nat.le_refl _) _).setCell (Nat.le_refl _) _⟩)
    · rw [hmk] at HRB CM
      clear hmk
      go_enter Try.func13, Try.ntmps13
      go_wp2_with fail
      refine (CIR.out _).mono ?_
      rintro e w1 ⟨rfl, rfl⟩
      go_wp2_with fail
      refine CM.out.mono ?_
      rintro e w1 ⟨rfl, hk1⟩
      have hR1 := hR.keeps hk1
      have c0 : w1.cell? ⟨w.heap.size, 0, none⟩ = some (.slice none 0 0) := by rw [hR1.cell]; rfl
      have c1 : w1.cell? ⟨w.heap.size, 1, none⟩ = some (.slice none 0 0) := by rw [hR1.cell]; rfl
      have f0 := hR1.frozen 0
      have f1 := hR1.frozen 1
      have zR := hR1.lt
      have hK1 := k1.step hk1
      clear k1 hk1
      go_wp2_with fail
      have k1 := ((hR1.set 0 (.slice none 0 0)).set 1 (.slice none 0 0)).cell 0
      have k2 := ((hR1.set 0 (.slice none 0 0)).set 1 (.slice none 0 0)).cell 1
      refine bodyPost_ret (v := .tuple #[.agg #[.slice none 0 0, .slice none 0 0], .bool false]) (by simp [results, Try.results13, go_sem, k1, k2]) rfl (.inl ⟨HRB.out, rfl, (hK1.setCell (Nat.le_refl _) _).setCell (Nat.le_refl _) _⟩)
end Go.Proofs.Ytdjilgbcpdlkfaa
