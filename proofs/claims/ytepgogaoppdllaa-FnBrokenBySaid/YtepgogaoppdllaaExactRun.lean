/-
  The contracts of the exact laws' words on runs: szRun, toRun, eqRun, markRun and what they call. Conditions: bounds on lengths and numbers.
-/
import Derived.Test.YtepgogaoppdllaaExact
import Derived.Test.YtepgogaoppdllaaStopsOwn
namespace Go.Proofs.Ytepgogaoppdllaa
open Go.RowKit

set_option maxHeartbeats 1000000 in
theorem szStops_any (A : Option Addr) (n c : Nat) (left : Int) (w : World) (hn : n ≤ 9223372036854775807) (h0 : 0 ≤ left) (h1 : left ≤ 1048576) :
    Calls Try.prog 66 #[.slice A n c, .int .i64 left] w fun e w' => e = .returned (.int .i64 (szLeft n left)) ∧ w = w' := by
  by_cases h : left - n < 0
  · have HV : Hid (szLeft n left = -1) := Lib.hid (by unfold szLeft; rw [if_pos h])
    go_enter Try.func66, Try.ntmps66
    go_wp2
    go_ret
    exact ⟨ret_int HV.out.symm, rfl⟩
  · have HV : Hid (szLeft n left = left - n) := Lib.hid (by unfold szLeft; rw [if_neg h])
    go_enter Try.func66, Try.ntmps66
    go_wp2
    go_ret
    exact ⟨ret_int HV.out.symm, rfl⟩
def szRunI (n m : Nat) : Int := if szLeft n 1048576 < 0 then -1 else szLeft m (szLeft n 1048576)
theorem szRunI_ok {n m : Nat} (h : 0 ≤ szRunI n m) : n ≤ 1048576 ∧ m ≤ 1048576 := by
  unfold szRunI szLeft at h
  repeat' split at h
  all_goals omega
set_option maxHeartbeats 1000000 in
theorem szRun_any (A S : Option Addr) (n c m d : Nat) (w : World) (hn : n ≤ 9223372036854775807) (hm : m ≤ 9223372036854775807) :
    Calls Try.prog 32 #[.agg #[.slice A n c, .slice S m d], .int .i64 1048576] w fun e w' => e = .returned (.int .i64 (szRunI n m)) ∧ Keeps w w' := by
  have hle : szLeft n 1048576 ≤ 1048576 := by unfold szLeft; split <;> omega
  by_cases h : szLeft n 1048576 < 0
  · have HV : Hid (szRunI n m = -1) := Lib.hid (by unfold szRunI; rw [if_pos h])
    have HS := Lib.hid (fun w => szInts_any A n c 1048576 w hn (by omega) (by omega))
    generalize szLeft n 1048576 = z at *
    go_enter Try.func32, Try.ntmps32
    go_wp2_with fail
    refine (HS.out _).mono ?_
    rintro e w1 ⟨rfl, rfl⟩
    go_wp2
    go_ret
    exact ⟨ret_int HV.out.symm, Keeps.alloc _ _⟩
  · have HV : Hid (szRunI n m = szLeft m (szLeft n 1048576)) := Lib.hid (by unfold szRunI; rw [if_neg h])
    have HS := Lib.hid (fun w => szInts_any A n c 1048576 w hn (by omega) (by omega))
    generalize szLeft n 1048576 = z at *
    have HS2 := Lib.hid (fun w => szStops_any S m d z w hm (by omega) hle)
    by_cases h2 : szLeft m z < 0
    · have HV2 : Hid (szLeft m z = -1) := Lib.hid (by unfold szLeft at h2 ⊢; split at h2 <;> simp_all)
      generalize szLeft m z = z2 at *
      go_enter Try.func32, Try.ntmps32
      go_wp2_with fail
      refine (HS.out _).mono ?_
      rintro e w1 ⟨rfl, rfl⟩
      go_wp2_with fail
      refine (HS2.out _).mono ?_
      rintro e w2 ⟨rfl, rfl⟩
      go_wp2
      go_ret
      exact ⟨ret_int (HV.out.trans HV2.out).symm, Keeps.alloc _ _⟩
    · generalize szLeft m z = z2 at *
      go_enter Try.func32, Try.ntmps32
      go_wp2_with fail
      refine (HS.out _).mono ?_
      rintro e w1 ⟨rfl, rfl⟩
      go_wp2_with fail
      refine (HS2.out _).mono ?_
      rintro e w2 ⟨rfl, rfl⟩
      go_wp2
      go_ret
      exact ⟨ret_int HV.out.symm, Keeps.alloc _ _⟩
set_option maxHeartbeats 1000000 in
theorem toStop_any (a b c : Int) (w : World) :
    Calls Try.prog 87 #[.agg #[.int .i64 a, .int .i64 b, .int .i64 c]] w fun e w' => e = .returned (.agg #[.int .i64 a, .int .i64 b, .int .i64 c]) ∧ Keeps w w' := by
  go_enter Try.func87, Try.ntmps87
  go_wp2
  refine bodyPost_ret (v := .agg #[.int .i64 a, .int .i64 b, .int .i64 c]) (by simp [results, Try.results87, go_sem]) rfl ⟨rfl, ?_⟩
  have k := ((Keeps.alloc w (.cells #[.int .i64 a, .int .i64 b, .int .i64 c] 82)).step (Keeps.alloc _ (.cells #[.int .i64 a, .int .i64 b, .int .i64 c] 65))).step (Keeps.alloc _ (.cells #[.int .i64 a, .int .i64 b, .int .i64 c] 65))
  repeat' refine Below.setCell ?_ (by simp) _
  exact k
theorem stopsOf_set (zs : List Int) (k m : Nat) (a b c : Int) (hl : zs.length = m * 3) (hk : k < m) (i : Nat) :
    stopsOf (((zs.set (k * 3) a).set (k * 3 + 1) b).set (k * 3 + 2) c) i = if i = k then (a, b, c) else stopsOf zs i := by
  unfold stopsOf
  simp only [List.getD_eq_getElem?_getD, List.getElem?_set, List.length_set]
  by_cases h : i = k
  · subst h
    rw [if_pos rfl]
    rw [if_neg (by omega), if_neg (by omega), if_pos rfl, if_pos (by omega), if_neg (by omega), if_pos rfl, if_pos (by omega), if_pos rfl, if_pos (by omega)]
    rfl
  · rw [if_neg h]
    rw [if_neg (by omega), if_neg (by omega), if_neg (by omega), if_neg (by omega), if_neg (by omega), if_neg (by omega), if_neg (by omega), if_neg (by omega), if_neg (by omega)]
theorem OwnStops.make (w : World) (lo n : Nat) (hlo : lo ≤ w.heap.size) (hn : n ≤ 1099511627776) : ∃ zs, OwnStops (w.alloc (.cells (madeCells (Value.agg #[.int .i64 0, .int .i64 0, .int .i64 0]).cells (n * 3)) 65)) lo (some ⟨w.heap.size, 0, none⟩) n n zs := by
  have h := World.ownsRow_lit (base := lo) (size := 3) (e := 65) w (madeCells (Value.agg #[.int .i64 0, .int .i64 0, .int .i64 0]).cells (n * 3)) n hlo (by unfold maxLen; omega) (by simp [size_madeCells])
  refine ⟨List.replicate (n * 3) 0, ?_⟩
  unfold OwnStops
  rw [show (List.replicate (n * 3) (0 : Int)).map (Value.int .i64) = (madeCells (Value.agg #[.int .i64 0, .int .i64 0, .int .i64 0]).cells (n * 3)).toList from ?_]
  · exact h
  · apply List.ext_getElem
    · simp [size_madeCells]
    · intro i h1 h2
      have h3 : i % 3 < 3 := Nat.mod_lt _ (by omega)
      simp only [List.map_replicate, List.getElem_replicate, madeCells, Value.cells]
      simp
      rcases (show i % 3 = 0 ∨ i % 3 = 1 ∨ i % 3 = 2 by omega) with e | e | e <;> simp [e]
theorem make_stops (n : Nat) (hn : n ≤ 1099511627776) (w : World) : (Instr.makeSlice 24 (.int .i64 n) (.int .i64 n)).run Try.prog w = .ok (.slice (some ⟨w.heap.size, 0, none⟩) n n) (w.alloc (.cells (madeCells (Value.agg #[.int .i64 0, .int .i64 0, .int .i64 0]).cells (n * 3)) 65)) := by
  obtain ⟨i0, hi, hz0, hz1, hz2⟩ := info_parts info_stop
  have := run_make (P := Try.prog) w 24 65 i0 _ Try.underlying24 hi hz0 .i64 .i64 n n (by omega) (Int.le_refl _) (by rw [hz2]; omega) (by omega)
  rw [hz1] at this
  simpa using this
set_option maxHeartbeats 2000000 in
theorem toStops_any (A : Option Addr) (n c : Nat) (st : Nat → Int × Int × Int) (w : World) (hn : n ≤ 1099511627776) (hS : Stops w A n st) :
    Calls Try.prog 68 #[.slice A n c] w fun e w' => ∃ g zs, e = .returned (.slice (some ⟨g, 0, none⟩) n n) ∧ OwnStops w' w.heap.size (some ⟨g, 0, none⟩) n n zs ∧ (∀ i, i < n → stopsOf zs i = st i) ∧ Keeps w w' := by
  have HS := Lib.hid hS
  clear hS
  have hmk := make_stops n hn
  obtain ⟨z0, hz0⟩ := OwnStops.make w w.heap.size n (Nat.le_refl _) hn
  have HZ := Lib.hid hz0
  clear hz0
  generalize hcc : madeCells (Value.agg #[.int .i64 0, .int .i64 0, .int .i64 0]).cells (n * 3) = cc at *
  clear hcc
  go_enter Try.func68, Try.ntmps68
  go_wp2_with fail
  go_loopw [4] (fun i wr => ∃ (k : Nat) (zs : List Int), k ≤ n ∧ i = .int .i64 k ∧ OwnStops wr w.heap.size (some ⟨w.heap.size, 0, none⟩) n n zs ∧ Hid (∀ i, i < k → stopsOf zs i = st i) ∧ Keeps w wr) (fun i _ => n - (intOf i).toNat)
  case atStart => exact ⟨0, z0, by omega, rfl, HZ.out, Lib.hid (fun i hi => absurd hi (Nat.not_lt_zero _)), Keeps.alloc _ _⟩
  case round =>
    obtain ⟨k, zs, hk, rfl, hO, HR, hK⟩ := hrel
    by_cases hlt : k < n
    · have hki : (k : Int) < n := by omega
      obtain ⟨d, off, rfl, h0, h1, h2⟩ := HS.out.keeps hK k hlt
      have HO := Lib.hid hO
      clear hO
      go_wp2_with fail
      refine (toStop_any _ _ _ _).mono ?_
      rintro e w1 ⟨rfl, hk1⟩
      have hO1 := HO.out.keeps hk1
      have c0 := hO1.cell (k * 3) (by omega)
      have c1 := hO1.cell (k * 3 + 1) (by omega)
      have c2 := hO1.cell (k * 3 + 2) (by omega)
      have f0 := hO1.frozen (k * 3)
      have f1 := hO1.frozen (k * 3 + 1)
      have f2 := hO1.frozen (k * 3 + 2)
      have HO1 := Lib.hid hO1
      clear hO1
      go_wp2
      go_roundw
      case rel =>
        refine ⟨k + 1, ((zs.set (k * 3) (st k).1).set (k * 3 + 1) (st k).2.1).set (k * 3 + 2) (st k).2.2, by omega, by go_num, ((HO1.out.set _ _).set _ _).set _ _, Lib.hid (fun i hi => ?_), Below.setCell (Below.setCell (Below.setCell (hK.step hk1) (Nat.le_refl _) _) (Nat.le_refl _) _) (Nat.le_refl _) _⟩
        rw [stopsOf_set zs k n _ _ _ HO1.out.len hlt]
        by_cases h : i = k
        · rw [if_pos h, h]
        · rw [if_neg h]; exact HR.out i (by omega)
      case measure => simp [intOf]; omega
    · obtain rfl : k = n := by omega
      have HO := Lib.hid hO
      clear hO
      go_wp2
      go_ret
      exact ⟨_, zs, rfl, HO.out, HR.out, hK⟩
/-- A run copied: it lies in new memory. -/
def RunCopied (n m : Nat) (x : Nat → Int) (st : Nat → Int × Int × Int) (w : World) (e : Ending) (w' : World) : Prop :=
  ∃ (g h : Nat) (zs : List Int), e = .returned (.agg #[.slice (some ⟨g, 0, none⟩) n n, .slice (some ⟨h, 0, none⟩) m m]) ∧ OwnInts w' w.heap.size (some ⟨g, 0, none⟩) n n (il n x) ∧ OwnStops w' w.heap.size (some ⟨h, 0, none⟩) m m zs ∧ (∀ i, i < m → stopsOf zs i = st i) ∧ Keeps w w'
set_option maxRecDepth 100000 in
set_option maxHeartbeats 2000000 in
theorem toRun_any (A S : Option Addr) (n c m d : Nat) (x : Nat → Int) (st : Nat → Int × Int × Int) (w : World) (hn : n ≤ 1099511627776) (hm : m ≤ 1099511627776) (hI : Ints w A n x) (hS : Stops w S m st) :
    Calls Try.prog 33 #[.agg #[.slice A n c, .slice S m d]] w (RunCopied n m x st w) := by
  have HI := Lib.hid hI
  have HS := Lib.hid hS
  clear hI hS
  have kA := Keeps.alloc w (.cells #[.slice A n c, .slice S m d] 43)
  have kB := kA.step (Keeps.alloc _ (.cells #[.slice none 0 0, .slice none 0 0] 26))
  have kC := kB.step (Keeps.alloc _ (.cells #[.slice none 0 0, .slice none 0 0] 26))
  go_enter Try.func33, Try.ntmps33
  go_wp2_with fail
  refine (toInts_any A n c x _ hn (HI.out.keeps kC)).mono ?_
  rintro e w1 ⟨g, rfl, hO, hk1⟩
  have hB0 := (((Blk.new w #[.slice A n c, .slice S m d] 43).keeps (Keeps.alloc _ (.cells #[.slice none 0 0, .slice none 0 0] 26))).keeps (Keeps.alloc _ (.cells #[.slice none 0 0, .slice none 0 0] 26))).keeps hk1
  have hB1 : Blk w1 (w.heap.size + 1) 26 #[.slice none 0 0, .slice none 0 0] := (Blk.keeps (blk_at (by simp) (Blk.new (w.alloc (.cells #[.slice A n c, .slice S m d] 43)) _ _)) (Keeps.alloc _ _)).keeps hk1
  have hB2 : Blk w1 (w.heap.size + 1 + 1) 26 #[.slice none 0 0, .slice none 0 0] := Blk.keeps (blk_at (by simp) (Blk.new ((w.alloc (.cells #[.slice A n c, .slice S m d] 43)).alloc (.cells #[.slice none 0 0, .slice none 0 0] 26)) _ _)) hk1
  have a1 : w1.cell? ⟨w.heap.size, 1, none⟩ = some (.slice S m d) := hB0.cell 1
  have b0 : w1.cell? ⟨w.heap.size + 1 + 1, 0, none⟩ = some (.slice none 0 0) := hB2.cell 0
  have f0 := hB2.frozen 0
  have hO1 := (hO.mono kC.size).grown (grown_set w1 (w.heap.size + 1 + 1) 0 (.slice (some ⟨g, 0, none⟩) n n)) hB2 (by decide)
  have hB01 := hB0.set_other ⟨w.heap.size + 1 + 1, 0, none⟩ (.slice (some ⟨g, 0, none⟩) n n) (by simp; omega)
  have hB11 := hB1.set_other ⟨w.heap.size + 1 + 1, 0, none⟩ (.slice (some ⟨g, 0, none⟩) n n) (by simp)
  have hB21 := hB2.set 0 (.slice (some ⟨g, 0, none⟩) n n)
  have hK1 : Keeps w (w1.setCell ⟨w.heap.size + 1 + 1, 0, none⟩ (.slice (some ⟨g, 0, none⟩) n n)) := Below.setCell (kC.step hk1) (by simp; omega) _
  have HO1 := Lib.hid hO1
  have HB11 := Lib.hid hB11
  have HB21 := Lib.hid hB21
  have HK1 := Lib.hid hK1
  have hne : w.heap.size ≠ w.heap.size + 1 + 1 := by omega
  clear hO hB0 hB1 hB2 hO1 hB01 hB11 hB21 hK1 hk1
  go_wp2_with fail
  refine (toStops_any S m d st _ hm (HS.out.keeps HK1.out)).mono ?_
  rintro e w2 ⟨h, zs, rfl, hZ, hR, hk2⟩
  have hB12 := HB11.out.keeps hk2
  have hB22 := HB21.out.keeps hk2
  have c20 : w2.cell? ⟨w.heap.size + 1 + 1, 0, none⟩ = some (.slice (some ⟨g, 0, none⟩) n n) := hB22.cell 0
  have c21 : w2.cell? ⟨w.heap.size + 1 + 1, 1, none⟩ = some (.slice none 0 0) := hB22.cell 1
  have f21 := hB22.frozen 1
  have c10 : w2.cell? ⟨w.heap.size + 1, 0, none⟩ = some (.slice none 0 0) := hB12.cell 0
  have c11 : w2.cell? ⟨w.heap.size + 1, 1, none⟩ = some (.slice none 0 0) := hB12.cell 1
  have f10 := hB12.frozen 0
  have f11 := hB12.frozen 1
  have HO2 := Lib.hid (HO1.out.keeps hk2)
  have HZ := Lib.hid (hZ.mono (lo' := w.heap.size) HK1.out.size)
  have HR := Lib.hid hR
  have HK2 := Lib.hid (HK1.out.step hk2)
  have HB12 := Lib.hid hB12
  have HB22 := Lib.hid hB22
  clear hB12 hB22 hZ hR hk2
  go_wp2
  have z1 := HB22.out.set 1 (.slice (some ⟨h, 0, none⟩) m m)
  have y1 := HB12.out.set_other ⟨w.heap.size + 1 + 1, 1, none⟩ (.slice (some ⟨h, 0, none⟩) m m) (by simp)
  have y2 := y1.set 0 (.slice (some ⟨g, 0, none⟩) n n)
  refine bodyPost_ret (v := .agg #[.slice (some ⟨g, 0, none⟩) n n, .slice (some ⟨h, 0, none⟩) m m]) (by simp [results, Try.results33, go_sem, c10, c11]) rfl ⟨g, h, zs, rfl, ?_, ?_, HR.out, ?_⟩
  · exact ((HO2.out.grown (grown_set _ _ _ _) HB22.out (by decide)).grown (grown_set _ _ _ _) y1 (by decide)).grown (grown_set _ _ _ _) y2 (by decide)
  · exact ((HZ.out.grown (grown_set _ _ _ _) HB22.out (by decide)).grown (grown_set _ _ _ _) y1 (by decide)).grown (grown_set _ _ _ _) y2 (by decide)
  · exact ((HK2.out.setCell (by simp; omega) _).setCell (by simp) _).setCell (by simp) _
set_option maxHeartbeats 1000000 in
theorem xStop_true (a b c : Int) (w : World) :
    Calls Try.prog 88 #[.agg #[.int .i64 a, .int .i64 b, .int .i64 c], .agg #[.int .i64 a, .int .i64 b, .int .i64 c]] w fun e w' => e = .returned (.bool true) ∧ Keeps w w' := by
  have ha : (a != a) = false := by simp
  have hb : (b != b) = false := by simp
  have hc : (c != c) = false := by simp
  have kk := (Keeps.alloc w (.cells #[.int .i64 a, .int .i64 b, .int .i64 c] 65)).step (Keeps.alloc _ (.cells #[.int .i64 a, .int .i64 b, .int .i64 c] 65))
  go_enter Try.func88, Try.ntmps88
  go_wp2
  go_ret
  exact ⟨rfl, kk⟩
set_option maxHeartbeats 2000000 in
theorem xStops_true (A B : Option Addr) (n c d : Nat) (st st' : Nat → Int × Int × Int) (w : World) (hn : n ≤ 1099511627776) (hx : Stops w A n st) (hy : Stops w B n st') (he : ∀ i, i < n → st' i = st i) :
    Calls Try.prog 69 #[.slice A n c, .slice B n d] w fun e w' => e = .returned (.bool true) ∧ Keeps w w' := by
  have HX := Lib.hid hx
  have HY := Lib.hid hy
  have HE := Lib.hid he
  clear hx hy he
  have hne : ((n : Int) != (n : Int)) = false := by simp
  go_enter Try.func69, Try.ntmps69
  go_wp2_with fail
  go_loopw [5] (fun i wr => ∃ k : Nat, k ≤ n ∧ i = .int .i64 k ∧ Keeps w wr) (fun i _ => n - (intOf i).toNat)
  case atStart => exact ⟨0, by omega, rfl, Keeps.refl _⟩
  case round =>
    obtain ⟨k, hk, rfl, hK⟩ := hrel
    by_cases hlt : k < n
    · have hlt' : (k : Int) < n := by omega
      obtain ⟨d1, o1, rfl, p0, p1, p2⟩ := HX.out.keeps hK k hlt
      obtain ⟨d2, o2, rfl, q0, q1, q2⟩ := HY.out.keeps hK k hlt
      rw [HE.out k hlt] at q0 q1 q2
      generalize (st k).1 = za at *
      generalize (st k).2.1 = zb at *
      generalize (st k).2.2 = zc at *
      go_wp2_with fail
      go_region_held3 (fun w' => w'.cell? ⟨d1, o1 + k * 3, none⟩ = some (.int .i64 za) ∧ w'.cell? ⟨d1, o1 + k * 3 + 1, none⟩ = some (.int .i64 zb) ∧ w'.cell? ⟨d1, o1 + k * 3 + 2, none⟩ = some (.int .i64 zc) ∧ w'.cell? ⟨d2, o2 + k * 3, none⟩ = some (.int .i64 za) ∧ w'.cell? ⟨d2, o2 + k * 3 + 1, none⟩ = some (.int .i64 zb) ∧ w'.cell? ⟨d2, o2 + k * 3 + 2, none⟩ = some (.int .i64 zc)) (first | exact ⟨cell_keeps hk5 g0, cell_keeps hk5 g1, cell_keeps hk5 g2, cell_keeps hk5 g3, cell_keeps hk5 g4, cell_keeps hk5 g5⟩ | exact ⟨p0, p1, p2, q0, q1, q2⟩) (first | (go_at_call 88; obtain ⟨g0, g1, g2, g3, g4, g5⟩ : _ ∧ _ ∧ _ ∧ _ ∧ _ ∧ _ := (by assumption); refine (xStop_true za zb zc _).mono ?_; rintro e w5 ⟨rfl, hk5⟩))
      go_wp2
      go_roundw
      case rel => exact ⟨k + 1, by omega, by go_num, hK.step ((Keeps.drew1 _).step hk5)⟩
      case measure => first | (simp [intOf]; done) | (simp [intOf]; omega)
    · have : k = n := by omega
      subst this
      go_wp2
      go_ret
      exact ⟨rfl, hK⟩
set_option maxHeartbeats 2000000 in
theorem xRun_true (A B S T : Option Addr) (n c c2 m d d2 : Nat) (x y : Nat → Int) (st st' : Nat → Int × Int × Int) (w : World) (hn : n ≤ 1099511627776) (hm : m ≤ 1099511627776) (hx : Ints w A n x) (hy : Ints w B n y) (he : ∀ i, i < n → x i = y i) (hs : Stops w S m st) (ht : Stops w T m st') (hst : ∀ i, i < m → st' i = st i) :
    Calls Try.prog 34 #[.agg #[.slice A n c, .slice S m d], .agg #[.slice B n c2, .slice T m d2]] w fun e w' => e = .returned (.bool true) ∧ Keeps w w' := by
  have HX := Lib.hid hx
  have HY := Lib.hid hy
  have HE := Lib.hid he
  have HS := Lib.hid hs
  have HT := Lib.hid ht
  have HST := Lib.hid hst
  clear hx hy he hs ht hst
  have kk := (Keeps.alloc w (.cells #[.slice A n c, .slice S m d] 26)).step (Keeps.alloc _ (.cells #[.slice B n c2, .slice T m d2] 26))
  have hB0 := (Blk.new w #[.slice A n c, .slice S m d] 26).keeps (Keeps.alloc _ (.cells #[.slice B n c2, .slice T m d2] 26))
  have hB1 : Blk ((w.alloc (.cells #[.slice A n c, .slice S m d] 26)).alloc (.cells #[.slice B n c2, .slice T m d2] 26)) (w.heap.size + 1) 26 #[.slice B n c2, .slice T m d2] := blk_at (by simp) (Blk.new _ _ _)
  have HB0 := Lib.hid hB0
  have HB1 := Lib.hid hB1
  clear hB0 hB1
  go_enter Try.func34, Try.ntmps34
  go_wp2_with fail
  refine (xInts_true A B n c c2 x y _ hn (HX.out.keeps kk) (HY.out.keeps kk) HE.out).mono ?_
  rintro e w1 ⟨rfl, hk1⟩
  have a1 : w1.cell? ⟨w.heap.size, 1, none⟩ = some (.slice S m d) := (HB0.out.keeps hk1).cell 1
  have b1 : w1.cell? ⟨w.heap.size + 1, 1, none⟩ = some (.slice T m d2) := (HB1.out.keeps hk1).cell 1
  go_wp2_with fail
  refine (xStops_true S T m d d2 st st' _ hm ((HS.out.keeps kk).keeps hk1) ((HT.out.keeps kk).keeps hk1) HST.out).mono ?_
  rintro e w2 ⟨rfl, hk2⟩
  go_wp2
  go_ret
  exact ⟨rfl, kk.step (hk1.step hk2)⟩
set_option maxHeartbeats 2000000 in
theorem markStops_any (lo g n c : Nat) (zs : List Int) (k : Int) (w : World) (hn : n ≤ 1048576) (h0 : 0 ≤ k) (h1 : k ≤ 1099511627776) (hO : OwnStops w lo (some ⟨g, 0, none⟩) n c zs) :
    Calls Try.prog 70 #[.slice (some ⟨g, 0, none⟩) n c, .int .i64 k] w fun e w' => e = .returned (.int .i64 (k + 3 * n)) ∧ w.grownBy w' (some g) := by
  have HO := Lib.hid hO
  clear hO
  go_enter Try.func70, Try.ntmps70
  go_wp2_with fail
  go_loopw [5, 1] (fun i v wr => ∃ (j : Nat) (zs : List Int), j ≤ n ∧ i = .int .i64 j ∧ v = .int .i64 (k + 3 * j) ∧ OwnStops wr lo (some ⟨g, 0, none⟩) n c zs ∧ w.grownBy wr (some g)) (fun i _ _ => n - (intOf i).toNat)
  case atStart => exact ⟨0, zs, by omega, rfl, by simp, HO.out, grown_refl _ _⟩
  case round =>
    clear HO
    obtain ⟨j, zs, hj, rfl, rfl, hO, hG⟩ := hrel
    by_cases hlt : j < n
    · have hji : (j : Int) < n := by omega
      have c0 := hO.cell (j * 3) (by omega)
      have c1 := hO.cell (j * 3 + 1) (by omega)
      have c2 := hO.cell (j * 3 + 2) (by omega)
      have f0 := hO.frozen (j * 3)
      have f1 := hO.frozen (j * 3 + 1)
      have f2 := hO.frozen (j * 3 + 2)
      have HN := Lib.hid (((hO.set (j * 3) (k + 3 * j)).set (j * 3 + 1) (k + 3 * j + 1)).set (j * 3 + 2) (k + 3 * j + 1 + 1))
      have H2 : Hid (k + 3 * (j : Int) + 1 + 1 + 1 = k + 3 * ((j + 1 : Nat) : Int)) := Lib.hid (by omega)
      clear hO
      go_wp2
      go_roundw
      case rel => exact ⟨j + 1, _, by omega, by go_num, by rw [H2.out], HN.out, grown_step hG (grown_step (grown_set _ _ _ _) (grown_step (grown_set _ _ _ _) (grown_set _ _ _ _)))⟩
      case measure => simp [intOf]; omega
    · obtain rfl : j = n := by omega
      clear hO
      go_wp2
      go_ret
      exact ⟨rfl, hG⟩
set_option maxHeartbeats 2000000 in
theorem markRun_any (lo g h n c m d : Nat) (l zs : List Int) (w : World) (hn : n ≤ 1048576) (hm : m ≤ 1048576) (hO : OwnInts w lo (some ⟨g, 0, none⟩) n c l) (hS : OwnStops w lo (some ⟨h, 0, none⟩) m d zs) :
    Calls Try.prog 35 #[.agg #[.slice (some ⟨g, 0, none⟩) n c, .slice (some ⟨h, 0, none⟩) m d], .int .i64 1] w fun e w' => e = .returned (.int .i64 (1 + n + 3 * m)) ∧ ∃ w1 w2, w.grownBy w1 none ∧ w1.grownBy w2 (some g) ∧ w2.grownBy w' (some h) := by
  have HO := Lib.hid hO
  have HS := Lib.hid hS
  have hB := Blk.new w #[.slice (some ⟨g, 0, none⟩) n c, .slice (some ⟨h, 0, none⟩) m d] 26
  have kk := Keeps.alloc w (.cells #[.slice (some ⟨g, 0, none⟩) n c, .slice (some ⟨h, 0, none⟩) m d] 26)
  have HB := Lib.hid hB
  clear hO hS hB
  go_enter Try.func35, Try.ntmps35
  go_wp2_with fail
  refine (markInts_any lo _ n c l 1 _ (by omega) (by omega) (by omega) (HO.out.keeps kk)).mono ?_
  rintro e w1 ⟨rfl, hO1, hG1⟩
  have hS1 : OwnStops w1 lo (some ⟨h, 0, none⟩) m d zs := own_kept (HS.out.keeps kk) hG1 (own_type (HS.out.keeps kk) (HO.out.keeps kk) (by decide))
  have hB1 := HB.out.grown hG1 (own_other' (HO.out.keeps kk) HB.out (by decide))
  have b1 : w1.cell? ⟨w.heap.size, 1, none⟩ = some (.slice (some ⟨h, 0, none⟩) m d) := hB1.cell 1
  have HS1 := Lib.hid hS1
  clear hO1 hS1 hB1
  go_wp2_with fail
  refine (markStops_any lo h m d zs (1 + n) _ hm (by omega) (by omega) HS1.out).mono ?_
  rintro e w2 ⟨rfl, hG2⟩
  go_wp2
  go_ret
  exact ⟨rfl, _, w1, grown_keeps kk, hG1, hG2⟩
end Go.Proofs.Ytepgogaoppdllaa
