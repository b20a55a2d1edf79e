/-
  The contracts of FarsOf and WidthOf, of the program and of the reference: both answer the same. No condition.
-/
import Derived.Test.YtdjilgbcpdlkfaaSNet
namespace Go.Proofs.Ytdjilgbcpdlkfaa
open Go.RowKit

/-- The call's own ints, as an answer: nil where there are none. -/
def GiveL (l : List Int) (w : World) (e : Ending) (w' : World) : Prop :=
  ∃ (A : Option Addr) (c : Nat), e = .returned (.slice A l.length c) ∧ OwnInts w' w.heap.size A l.length c l ∧ Keeps w w'
theorem GiveL.nil {l : List Int} {w w' : World} (hl : l = []) (k : Keeps w w') : GiveL l w (.returned (.slice Option.none 0 0)) w' := by
  subst hl
  exact ⟨Option.none, 0, rfl, OwnInts.nil _ _, k⟩
theorem GiveL.of {m : Nat} {x : Nat → Int} {l : List Int} {w0 w w' : World} {g c : Nat} (hl : l = il m x) (hO : OwnInts w' w.heap.size (some ⟨g, 0, none⟩) m c (il m x)) (k0 : Keeps w0 w) (k : Keeps w w') : GiveL l w0 (.returned (.slice (some ⟨g, 0, none⟩) m c)) w' := by
  subst hl
  exact ⟨some ⟨g, 0, none⟩, c, by rw [il_len], by rw [il_len]; exact hO.mono k0.size, k0.step k⟩
def farsL (m : Nat) (L : Nat → Nat) (X : Nat → Nat → Int) (mm : Nat) (M : Nat → Int) (s : Int) : List Int := if nodeB m L X mm M s then il m (farF m L (portT X) s.toNat) else []
theorem farsL_len (m : Nat) (L : Nat → Nat) (X : Nat → Nat → Int) (mm : Nat) (M : Nat → Int) (s : Int) : (farsL m L X mm M s).length ≤ m := by
  unfold farsL
  split
  · rw [il_len]; exact Nat.le_refl _
  · exact Nat.zero_le _
theorem node_true {m : Nat} {L : Nat → Nat} {X : Nat → Nat → Int} {mm : Nat} {M : Nat → Int} {s : Int} (h : nodeB m L X mm M s = true) : netB m L X mm M = true ∧ ∃ k : Nat, s = k ∧ k < m := by
  unfold nodeB at h
  rw [Bool.and_eq_true] at h
  have h2 := inB_true h.2
  exact ⟨h.1, s.toNat, by omega, by omega⟩
section
variable (A B : Option Addr) (m c mm d : Nat) (r : Nat → Option Addr × Nat × Nat) (L : Nat → Nat) (X : Nat → Nat → Int) (M : Nat → Int)
set_option maxRecDepth 100000 in
set_option maxHeartbeats 2000000 in
theorem iFarsOf_any (s : Int) (w : World) (hN : NetAt w A m r B mm L X M) :
    Calls Try.prog 20 #[.agg #[.slice A m c, .slice B mm d], .int .i64 s] w (GiveL (farsL m L X mm M s) w) := by
  have kA := Keeps.alloc w (.cells #[.slice A m c, .slice B mm d] 27)
  have hB := Blk.new w #[.slice A m c, .slice B mm d] 27
  have HB0 := Lib.hid (show (w.alloc (.cells #[.slice A m c, .slice B mm d] 27)).cell? ⟨w.heap.size, 0, none⟩ = some (.slice A m c) from hB.cell 0)
  have CC := Lib.hid (nodeIn_any A B m c mm d r L X M s _ (hN.keeps kA))
  have HN := Lib.hid (hN.keeps kA)
  have hmb := hN.mb
  clear hN hB
  cases v1 : nodeB m L X mm M s
  · have HV : Hid (farsL m L X mm M s = []) := Lib.hid (by unfold farsL; rw [v1]; rfl)
    have V1 := Lib.hid v1
    clear v1
    go_enter Try.func20, Try.ntmps20
    go_wp2_with fail
    refine CC.out.mono ?_
    rintro e w1 ⟨rfl, hk1⟩
    rw [V1.out]
    go_wp2
    go_ret
    exact GiveL.nil HV.out (kA.step hk1)
  · obtain ⟨hnb, k, rfl, hk⟩ := node_true v1
    have ok := net_true hnb
    have HV : Hid (farsL m L X mm M k = il m (farF m L (portT X) k)) := Lib.hid (by unfold farsL; rw [v1]; rfl)
    have V1 := Lib.hid v1
    have CF := Lib.hid (fun w' (hK : Keeps (w.alloc (.cells #[.slice A m c, .slice B mm d] 27)) w') => ifars_any A m c r L (portT X) k w' ok.lo ok.hi ((HN.out.keeps hK).ports ok.port) HN.out.len HN.out.lenb ok.node hk)
    clear v1 hnb ok
    go_enter Try.func20, Try.ntmps20
    go_wp2_with fail
    refine CC.out.mono ?_
    rintro e w1 ⟨rfl, hk1⟩
    rw [V1.out]
    have q0 := cell_keeps hk1 HB0.out
    go_wp2_with fail
    refine (CF.out _ hk1).mono ?_
    rintro e w2 ⟨g, cg, rfl, hO, hk2⟩
    have HO := Lib.hid hO
    clear hO
    go_wp2
    go_ret
    exact GiveL.of HV.out HO.out (kA.step hk1) hk2
set_option maxRecDepth 100000 in
set_option maxHeartbeats 2000000 in
theorem sFarsOf_any (s : Int) (w : World) (hN : NetAt w A m r B mm L X M) :
    Calls Try.prog 21 #[.agg #[.slice A m c, .slice B mm d], .int .i64 s] w (GiveL (farsL m L X mm M s) w) := by
  have kA := Keeps.alloc w (.cells #[.slice A m c, .slice B mm d] 27)
  have hB := Blk.new w #[.slice A m c, .slice B mm d] 27
  have HB0 := Lib.hid (show (w.alloc (.cells #[.slice A m c, .slice B mm d] 27)).cell? ⟨w.heap.size, 0, none⟩ = some (.slice A m c) from hB.cell 0)
  have HB1 := Lib.hid (show (w.alloc (.cells #[.slice A m c, .slice B mm d] 27)).cell? ⟨w.heap.size, 1, none⟩ = some (.slice B mm d) from hB.cell 1)
  have CC := Lib.hid (svalidNet_any A B m c mm d r L X M _ (hN.keeps kA))
  have HN := Lib.hid (hN.keeps kA)
  have hmb := hN.mb
  clear hN hB
  cases v1 : netB m L X mm M
  · have HV : Hid (farsL m L X mm M s = []) := Lib.hid (by unfold farsL nodeB; rw [v1]; rfl)
    have V1 := Lib.hid v1
    clear v1
    go_enter Try.func21, Try.ntmps21
    go_wp2_with fail
    refine CC.out.mono ?_
    rintro e w1 ⟨rfl, hk1⟩
    rw [V1.out]
    go_wp2
    go_ret
    exact GiveL.nil HV.out (kA.step hk1)
  · cases v2 : inB s 0 ((m : Int) - 1)
    · have HV : Hid (farsL m L X mm M s = []) := Lib.hid (by unfold farsL nodeB; rw [v1, v2]; rfl)
      have V1 := Lib.hid v1
      have V2 := Lib.hid v2
      clear v1 v2
      go_enter Try.func21, Try.ntmps21
      go_wp2_with fail
      refine CC.out.mono ?_
      rintro e w1 ⟨rfl, hk1⟩
      rw [V1.out]
      have q0 := cell_keeps hk1 HB0.out
      go_wp2_with fail
      refine (inRange_any _ _ _ _).mono ?_
      rintro e w2 ⟨rfl, rfl⟩
      rw [V2.out]
      go_wp2
      go_ret
      exact GiveL.nil HV.out (kA.step hk1)
    · have h2 := inB_true v2
      obtain ⟨k, rfl⟩ := Int.eq_ofNat_of_zero_le h2.1
      have hk : k < m := by omega
      have ok := net_true v1
      have HV : Hid (farsL m L X mm M k = il m (farF m L (portT X) k)) := Lib.hid (by unfold farsL nodeB; rw [v1, v2]; rfl)
      have V1 := Lib.hid v1
      have V2 := Lib.hid v2
      have CF := Lib.hid (fun w' (hK : Keeps (w.alloc (.cells #[.slice A m c, .slice B mm d] 27)) w') => sfars_any A B m c mm d r L (portT X) k w' ok.hi ((HN.out.keeps hK).ports ok.port) HN.out.len HN.out.lenb ok.node hk)
      clear v1 v2 ok h2
      go_enter Try.func21, Try.ntmps21
      go_wp2_with fail
      refine CC.out.mono ?_
      rintro e w1 ⟨rfl, hk1⟩
      rw [V1.out]
      have q0 := cell_keeps hk1 HB0.out
      have q1 := cell_keeps hk1 HB1.out
      go_wp2_with fail
      refine (inRange_any _ _ _ _).mono ?_
      rintro e w2 ⟨rfl, rfl⟩
      rw [V2.out]
      go_wp2_with fail
      refine (CF.out _ hk1).mono ?_
      rintro e w2 ⟨g, cg, rfl, hO, hk2⟩
      have HO := Lib.hid hO
      clear hO
      go_wp2
      go_ret
      exact GiveL.of HV.out HO.out (kA.step hk1) hk2
/-- The greatest of the distances from the first k nodes. -/
def wmaxF (m : Nat) (f : Nat → Nat → Int) : Nat → Int
  | 0 => 0
  | k + 1 => max (wmaxF m f k) (topF (f k) (m - 1))
def widthI (m : Nat) (L : Nat → Nat) (X : Nat → Nat → Int) (mm : Nat) (M : Nat → Int) : Int := if netB m L X mm M then wmaxF m (fun s => farF m L (portT X) s) m else -1
/-- The greatest of the first k numbers, 0 at least. -/
def rmaxF (x : Nat → Int) : Nat → Int
  | 0 => 0
  | k + 1 => max (rmaxF x k) (x k)
theorem rmax_top (x : Nat → Int) : ∀ k, rmaxF x (k + 1) = max 0 (topF x k)
  | 0 => rfl
  | k + 1 => by
    show max (rmaxF x (k + 1)) (x (k + 1)) = max 0 (max (topF x k) (x (k + 1)))
    rw [rmax_top x k]
    omega
theorem far_reach {T : Nat → Nat → Nat} {m : Nat} {L : Nat → Nat} (s : Nat) (hs : s < m) : rmaxF (farF m L T s) m = topF (farF m L T s) (m - 1) := by
  obtain ⟨k, rfl⟩ : ∃ k, m = k + 1 := ⟨m - 1, by omega⟩
  rw [rmax_top]
  have h1 := topF_ge (farF (k + 1) L T s) k s (by omega)
  rw [(far_dist (k + 1) L T s).src] at h1
  show max 0 (topF (farF (k + 1) L T s) k) = topF (farF (k + 1) L T s) k
  omega
theorem slMax_n (n : Nat) (x : Nat → Int) (w : World) (h1 : 1 ≤ n) (hm : n ≤ 1099511627776) (hI : Ints w A n x) : Calls Try.prog 56 #[.slice A n c] w fun e w' => e = .returned (.int .i64 (topF x (n - 1))) ∧ w = w' := by
  obtain ⟨k, rfl⟩ : ∃ k, n = k + 1 := ⟨n - 1, by omega⟩
  exact slMax_any A k c x w hm hI
set_option maxRecDepth 100000 in
set_option maxHeartbeats 2000000 in
theorem iWidthOf_any (w : World) (hN : NetAt w A m r B mm L X M) :
    Calls Try.prog 17 #[.agg #[.slice A m c, .slice B mm d]] w fun e w' => e = .returned (.int .i64 (widthI m L X mm M)) ∧ Keeps w w' := by
  have kA := Keeps.alloc w (.cells #[.slice A m c, .slice B mm d] 27)
  have hB := Blk.new w #[.slice A m c, .slice B mm d] 27
  have HB0 := Lib.hid (show (w.alloc (.cells #[.slice A m c, .slice B mm d] 27)).cell? ⟨w.heap.size, 0, none⟩ = some (.slice A m c) from hB.cell 0)
  have CC := Lib.hid (validNet_any A B m c mm d r L X M _ (hN.keeps kA))
  have HN := Lib.hid (hN.keeps kA)
  have hmb := hN.mb
  clear hN hB
  cases v1 : netB m L X mm M
  · have HV : Hid (-1 = widthI m L X mm M) := Lib.hid (by unfold widthI; rw [v1]; rfl)
    have V1 := Lib.hid v1
    clear v1
    go_enter Try.func17, Try.ntmps17
    go_wp2_with fail
    refine CC.out.mono ?_
    rintro e w1 ⟨rfl, hk1⟩
    rw [V1.out]
    go_wp2
    go_ret
    exact ⟨ret_int HV.out, kA.step hk1⟩
  · have ok := net_true v1
    have h1 := ok.lo
    have h6 := ok.hi
    have HV : Hid (wmaxF m (fun s => farF m L (portT X) s) m = widthI m L X mm M) := Lib.hid (by unfold widthI; rw [v1]; rfl)
    have V1 := Lib.hid v1
    have CF := Lib.hid (fun k (hk : k < m) w' (hK : Keeps (w.alloc (.cells #[.slice A m c, .slice B mm d] 27)) w') => ifars_any A m c r L (portT X) k w' ok.lo ok.hi ((HN.out.keeps hK).ports ok.port) HN.out.len HN.out.lenb ok.node hk)
    clear v1 ok
    go_enter Try.func17, Try.ntmps17
    go_wp2_with fail
    refine CC.out.mono ?_
    rintro e w1 ⟨rfl, hk1⟩
    rw [V1.out]
    have q0 := cell_keeps hk1 HB0.out
    go_wp2_with fail
    go_loopw [11, 3] (fun i v wr => ∃ k : Nat, k ≤ m ∧ i = .int .i64 k ∧ v = .int .i64 (wmaxF m (fun s => farF m L (portT X) s) k) ∧ Keeps w1 wr) (fun i _ _ => m - (intOf i).toNat)
    case atStart => exact ⟨0, by omega, rfl, rfl, Keeps.refl _⟩
    case round =>
      obtain ⟨k, hk, rfl, rfl, hK⟩ := hrel
      by_cases hlt : k < m
      · have hki : (k : Int) < m := by omega
        have q1 := cell_keeps hK q0
        have HS := Lib.hid (show wmaxF m (fun s => farF m L (portT X) s) (k + 1) = max (wmaxF m (fun s => farF m L (portT X) s) k) (topF (farF m L (portT X) k) (m - 1)) from rfl)
        have CFk := Lib.hid (CF.out k hlt wr (hk1.step hK))
        generalize wmaxF m (fun s => farF m L (portT X) s) k = v at *
        clear q0
        go_wp2_with fail
        refine CFk.out.mono ?_
        rintro e w2 ⟨g, cg, rfl, hO, hk2⟩
        have CM := Lib.hid (slMax_n (some ⟨g, 0, none⟩) cg m (farF m L (portT X) k) w2 h1 (by omega) (il_ints hO))
        clear hO
        generalize topF (farF m L (portT X) k) (m - 1) = z at *
        go_wp2_with fail
        refine CM.out.mono ?_
        rintro e w3 ⟨rfl, rfl⟩
        by_cases h : z ≤ v
        · have HV2 := Lib.hid (show wmaxF m (fun s => farF m L (portT X) s) (k + 1) = v by rw [HS.out]; omega)
          have h' : ¬ v < z := by omega
          go_wp2
          go_roundw
          case rel => exact ⟨k + 1, by omega, by go_num, by rw [HV2.out], hK.step hk2⟩
          case measure => simp [intOf]; omega
        · have HV2 := Lib.hid (show wmaxF m (fun s => farF m L (portT X) s) (k + 1) = z by rw [HS.out]; omega)
          have h' : v < z := by omega
          go_wp2
          go_roundw
          case rel => exact ⟨k + 1, by omega, by go_num, by rw [HV2.out], hK.step hk2⟩
          case measure => simp [intOf]; omega
      · obtain rfl : k = m := by omega
        rw [HV.out]
        go_wp2
        go_ret
        exact ⟨rfl, (kA.step hk1).step hK⟩
set_option maxRecDepth 100000 in
set_option maxHeartbeats 2000000 in
theorem reach_any (s : Nat) (w : World) (hN : NetAt w A m r B mm L X M) (ok : NetOk m L X mm M) (hs : s < m) :
    Calls Try.prog 60 #[.agg #[.slice A m c, .slice B mm d], .int .i64 s] w fun e w' => e = .returned (.int .i64 (rmaxF (farF m L (portT X) s) m)) ∧ Keeps w w' := by
  have kA := Keeps.alloc w (.cells #[.slice A m c, .slice B mm d] 27)
  have h6 := ok.hi
  have CF := Lib.hid (sfars_any A B m c mm d r L (portT X) s _ ok.hi ((hN.keeps kA).ports ok.port) hN.len hN.lenb ok.node hs)
  clear hN ok
  go_enter Try.func60, Try.ntmps60
  go_wp2_with fail
  refine CF.out.mono ?_
  rintro e w2 ⟨g, cg, rfl, hO, hk2⟩
  have HO := Lib.hid hO
  clear hO
  generalize hf : farF m L (portT X) s = f at *
  have HFE := Lib.hid hf
  clear hf
  go_wp2_with fail
  go_loop [7, 5] (fun i v => ∃ k : Nat, k ≤ m ∧ i = .int .i64 k ∧ v = .int .i64 (rmaxF f k)) (fun i _ => m - (intOf i).toNat)
  case atStart => exact ⟨0, by omega, rfl, rfl⟩
  case round =>
    obtain ⟨k, hk, rfl, rfl⟩ := hrel
    by_cases hlt : k < m
    · have hki : (k : Int) < m := by omega
      have hc := HO.out.cell k hlt
      rw [il_getD _ _ _ hlt] at hc
      have HS := Lib.hid (show rmaxF f (k + 1) = max (rmaxF f k) (f k) from rfl)
      generalize rmaxF f k = v at *
      generalize f k = z at *
      by_cases h : z ≤ v
      · have HV2 := Lib.hid (show rmaxF f (k + 1) = v by rw [HS.out]; omega)
        have h' : ¬ v < z := by omega
        go_wp2
        go_round
        case rel => exact ⟨k + 1, by omega, by go_num, by rw [HV2.out]⟩
        case measure => simp [intOf]; omega
      · have HV2 := Lib.hid (show rmaxF f (k + 1) = z by rw [HS.out]; omega)
        have h' : v < z := by omega
        go_wp2
        go_round
        case rel => exact ⟨k + 1, by omega, by go_num, by rw [HV2.out]⟩
        case measure => simp [intOf]; omega
    · obtain rfl : k = m := by omega
      go_wp2
      go_ret
      exact ⟨ret_int (by rw [HFE.out]), kA.step hk2⟩
set_option maxRecDepth 100000 in
set_option maxHeartbeats 2000000 in
theorem sWidthOf_any (w : World) (hN : NetAt w A m r B mm L X M) :
    Calls Try.prog 26 #[.agg #[.slice A m c, .slice B mm d]] w fun e w' => e = .returned (.int .i64 (widthI m L X mm M)) ∧ Keeps w w' := by
  have kA := Keeps.alloc w (.cells #[.slice A m c, .slice B mm d] 27)
  have hB := Blk.new w #[.slice A m c, .slice B mm d] 27
  have HB0 := Lib.hid (show (w.alloc (.cells #[.slice A m c, .slice B mm d] 27)).cell? ⟨w.heap.size, 0, none⟩ = some (.slice A m c) from hB.cell 0)
  have HB1 := Lib.hid (show (w.alloc (.cells #[.slice A m c, .slice B mm d] 27)).cell? ⟨w.heap.size, 1, none⟩ = some (.slice B mm d) from hB.cell 1)
  have CC := Lib.hid (svalidNet_any A B m c mm d r L X M _ (hN.keeps kA))
  have HN := Lib.hid (hN.keeps kA)
  have hmb := hN.mb
  clear hN hB
  cases v1 : netB m L X mm M
  · have HV : Hid (-1 = widthI m L X mm M) := Lib.hid (by unfold widthI; rw [v1]; rfl)
    have V1 := Lib.hid v1
    clear v1
    go_enter Try.func26, Try.ntmps26
    go_wp2_with fail
    refine CC.out.mono ?_
    rintro e w1 ⟨rfl, hk1⟩
    rw [V1.out]
    go_wp2
    go_ret
    exact ⟨ret_int HV.out, kA.step hk1⟩
  · have ok := net_true v1
    have HV : Hid (wmaxF m (fun s => farF m L (portT X) s) m = widthI m L X mm M) := Lib.hid (by unfold widthI; rw [v1]; rfl)
    have V1 := Lib.hid v1
    have CF := Lib.hid (fun k (hk : k < m) w' (hK : Keeps (w.alloc (.cells #[.slice A m c, .slice B mm d] 27)) w') => reach_any A B m c mm d r L X M k w' (HN.out.keeps hK) ok hk)
    clear v1 ok
    go_enter Try.func26, Try.ntmps26
    go_wp2_with fail
    refine CC.out.mono ?_
    rintro e w1 ⟨rfl, hk1⟩
    rw [V1.out]
    have q0 := cell_keeps hk1 HB0.out
    have q1 := cell_keeps hk1 HB1.out
    go_wp2_with fail
    go_loopw [4, 3] (fun i v wr => ∃ k : Nat, k ≤ m ∧ i = .int .i64 k ∧ v = .int .i64 (wmaxF m (fun s => farF m L (portT X) s) k) ∧ Keeps w1 wr) (fun i _ _ => m - (intOf i).toNat)
    case atStart => exact ⟨0, by omega, rfl, rfl, Keeps.refl _⟩
    case round =>
      obtain ⟨k, hk, rfl, rfl, hK⟩ := hrel
      have q2 := cell_keeps hK q0
      have q3 := cell_keeps hK q1
      clear q0 q1
      by_cases hlt : k < m
      · have hki : (k : Int) < m := by omega
        have HS := Lib.hid (show wmaxF m (fun s => farF m L (portT X) s) (k + 1) = max (wmaxF m (fun s => farF m L (portT X) s) k) (rmaxF (farF m L (portT X) k) m) by rw [far_reach k hlt]; rfl)
        have CFk := Lib.hid (CF.out k hlt wr (hk1.step hK))
        generalize wmaxF m (fun s => farF m L (portT X) s) k = v at *
        generalize rmaxF (farF m L (portT X) k) m = z at *
        go_wp2_with fail
        refine CFk.out.mono ?_
        rintro e w2 ⟨rfl, hk2⟩
        by_cases h : z ≤ v
        · have HV2 := Lib.hid (show wmaxF m (fun s => farF m L (portT X) s) (k + 1) = v by rw [HS.out]; omega)
          have h' : ¬ v < z := by omega
          go_wp2
          go_roundw
          case rel => exact ⟨k + 1, by omega, by go_num, by rw [HV2.out], hK.step hk2⟩
          case measure => simp [intOf]; omega
        · have HV2 := Lib.hid (show wmaxF m (fun s => farF m L (portT X) s) (k + 1) = z by rw [HS.out]; omega)
          have h' : v < z := by omega
          go_wp2
          go_roundw
          case rel => exact ⟨k + 1, by omega, by go_num, by rw [HV2.out], hK.step hk2⟩
          case measure => simp [intOf]; omega
      · obtain rfl : k = m := by omega
        rw [HV.out]
        go_wp2
        go_ret
        exact ⟨rfl, (kA.step hk1).step hK⟩
end
end Go.Proofs.Ytdjilgbcpdlkfaa
