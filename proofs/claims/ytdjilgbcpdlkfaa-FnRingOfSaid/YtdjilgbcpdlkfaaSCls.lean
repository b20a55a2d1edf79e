/-
  The contracts of classesAt, ClassesAt and kinds of the reference. Condition: a valid net.
-/
import Derived.Test.YtdjilgbcpdlkfaaRefine
namespace Go.Proofs.Ytdjilgbcpdlkfaa
open Go.RowKit

/-- The least of the j nodes ahead of v, and v, that has p, v if none. -/
def botF (p : Nat → Bool) (v : Nat) : Nat → Nat
  | 0 => v
  | j + 1 => if p (v - (j + 1)) then v - (j + 1) else botF p v j
theorem bot_at (p : Nat → Bool) (v : Nat) : ∀ j, j ≤ v → v - j ≤ botF p v j ∧ botF p v j ≤ v ∧ (botF p v j < v → p (botF p v j) = true) ∧ ∀ x, v - j ≤ x → x < botF p v j → p x = false
  | 0, _ => ⟨by simp [botF], Nat.le_refl _, fun h => absurd h (Nat.lt_irrefl _), fun x h1 h2 => by simp [botF] at h2; omega⟩
  | j + 1, hj => by
    obtain ⟨h1, h2, h3, h4⟩ := bot_at p v j (by omega)
    unfold botF
    by_cases e : p (v - (j + 1)) = true
    · rw [if_pos e]
      exact ⟨Nat.le_refl _, by omega, fun _ => e, fun x a b => by omega⟩
    · rw [if_neg e]
      refine ⟨by omega, h2, h3, fun x a b => ?_⟩
      by_cases ex : x = v - (j + 1)
      · rw [ex]; simpa using e
      · exact h4 x (by omega) b
theorem bot_rep (R : Nat → Nat → Bool) (v : Nat) : botF (fun u => R u v) v v = repF R v := by
  obtain ⟨h1, h2, h3, h4⟩ := bot_at (fun u => R u v) v v (Nat.le_refl _)
  exact (leastN_eq _ v _ h2 (fun j hj => h4 j (by omega) hj) h3).symm
section
variable {A B C : Option Addr} {m c mm d cc : Nat} {r : Nat → Option Addr × Nat × Nat} {L : Nat → Nat} {X : Nat → Nat → Int} {M : Nat → Int} {k : Nat → Nat}
set_option maxRecDepth 100000 in
set_option maxHeartbeats 16000000 in
theorem sclassesAt_any (rr : Nat) (w : World) (hN : NetAt w A m r B mm L X M) (ok : NetOk m L X mm M) (hr : rr ≤ 1000) :
    Calls Try.prog 63 #[.agg #[.slice A m c, .slice B mm d], .int .i64 rr] w (GiveInts m (fun v => (clsF L (portT X) M rr v : Nat)) w) := by
  have hm6 := ok.hi
  have hmm := ok.mm.symm
  subst hmm
  have hmb := hN.mb
  have kA := Keeps.alloc w (.cells #[.slice A m c, .slice B m d] 27)
  have hB1 := Blk.new w #[.slice A m c, .slice B m d] 27
  have d0 : (w.alloc (.cells #[.slice A m c, .slice B m d] 27)).cell? ⟨w.heap.size, 0, none⟩ = some (.slice A m c) := hB1.cell 0
  have d1 : (w.alloc (.cells #[.slice A m c, .slice B m d] 27)).cell? ⟨w.heap.size, 1, none⟩ = some (.slice B m d) := hB1.cell 1
  have HN := Lib.hid (hN.keeps kA)
  have HI := Lib.hid (hN.keeps kA).marks
  generalize hw0 : w.alloc (.cells #[.slice A m c, .slice B m d] 27) = w0 at *
  generalize hbx : w.heap.size = bx at *
  have HW0 := Lib.hid hw0
  have HBX := Lib.hid hbx
  have HKA := Lib.hid kA
  have HOK := Lib.hid ok
  have HRF0 : Hid (RF w0 w0.heap.size w0.heap.size 0 0 (fun v => (clsF L (portT X) M 0 v : Nat)) (w0.alloc (.cells #[] 3))) := Lib.hid ⟨OwnInts.made w0 w0.heap.size (Nat.le_refl _), Keeps.alloc _ _⟩
  clear hN kA hB1 hw0 ok hbx
  go_enter Try.func63, Try.ntmps63
  go_upto_region 1 with fail
  rw [HBX.out, HW0.out]
  go_wp2_with fail
  go_loopw [6, 5] (fun i cv wr => ∃ (v g cp : Nat), v ≤ m ∧ i = .int .i64 v ∧ cv = .slice (some ⟨g, 0, none⟩) v cp ∧ Hid (RF w0 w0.heap.size g cp v (fun v => (clsF L (portT X) M 0 v : Nat)) wr)) (fun i _ _ => m - (intOf i).toNat)
  case atStart => exact ⟨0, _, 0, by omega, rfl, rfl, HRF0⟩
  case round =>
    clear HRF0
    obtain ⟨v, g, cp, hv, rfl, rfl, HF⟩ := hrel
    have g1 := cell_keeps HF.out.kp d1
    by_cases hlt : v < m
    · have hvi : (v : Int) < m := by omega
      have HEND : Hid (botF (fun u => marksB M u v) v v = clsF L (portT X) M 0 v) := Lib.hid (bot_rep (marksB M) v)
      go_wp2_with fail
      go_loopw [8, 7] (fun i lv wi => ∃ j : Nat, j ≤ v ∧ i = .int .i64 ((v : Int) - 1 - j) ∧ lv = .int .i64 (botF (fun u => marksB M u v) v j : Nat) ∧ Hid (RF w0 w0.heap.size g cp v (fun v => (clsF L (portT X) M 0 v : Nat)) wi)) (fun i _ _ => (intOf i + 1).toNat)
      case atStart => exact ⟨0, by omega, by go_num, rfl, HF⟩
      case round =>
        clear HF g1
        obtain ⟨j, hj, rfl, rfl, HF⟩ := hrel
        have g1 := cell_keeps HF.out.kp d1
        by_cases hltj : j < v
        · obtain ⟨u, hu⟩ : ∃ u : Nat, u = v - (j + 1) := ⟨_, rfl⟩
          have hui : (v : Int) - 1 - (j : Int) = (u : Int) := by omega
          have hum : u < m := by omega
          have humi : (u : Int) < m := by omega
          have HNX : Hid (botF (fun u => marksB M u v) v (j + 1) = if M u = M v then u else botF (fun u => marksB M u v) v j) := Lib.hid (by
            conv => lhs; unfold botF
            rw [← hu]
            unfold marksB
            simp)
          have HU : Hid ((u : Int) - 1 = (v : Int) - 1 - ((j + 1 : Nat) : Int)) := Lib.hid (by omega)
          obtain ⟨bM, oM, rfl, hcu⟩ := HI.out u hum
          obtain ⟨_, _, eM, hcv⟩ := HI.out v hlt
          cases eM
          have gu := cell_keeps HF.out.kp hcu
          have gv := cell_keeps HF.out.kp hcv
          have HFD := Lib.hid (HF.out.keeps (Keeps.drew1 _))
          rw [hui]
          clear hui hcu hcv hu
          generalize M u = x at *
          generalize M v = y at *
          generalize botF (fun u => marksB M u v) v j = bt at *
          go_wp2_with fail
          go_region_held3 (fun w' => w'.cell? ⟨bx, 1, none⟩ = some (.slice (some ⟨bM, oM, none⟩) m d) ∧ w'.cell? ⟨bM, oM + u, none⟩ = some (.int .i64 x) ∧ w'.cell? ⟨bM, oM + v, none⟩ = some (.int .i64 y)) (first | exact ⟨g1, gu, gv⟩) (fail)
          by_cases e1 : x = y
          · have HV : Hid (u = botF (fun u => marksB M u v) v (j + 1)) := Lib.hid (by rw [HNX.out, if_pos e1])
            subst e1
            go_wp2
            go_roundw
            case rel => exact ⟨j + 1, by omega, by rw [← HU.out], by rw [← HV.out], HFD⟩
            case measure => simp [intOf]
          · have HV : Hid (bt = botF (fun u => marksB M u v) v (j + 1)) := Lib.hid (by rw [HNX.out, if_neg e1])
            have hx : (x == y) = false := by simp [e1]
            clear e1
            go_wp2
            go_roundw
            case rel => exact ⟨j + 1, by omega, by rw [← HU.out], by rw [← HV.out], HFD⟩
            case measure => simp [intOf]
        · obtain rfl : j = v := by omega
          have hui : (j : Int) - 1 - (j : Int) = -1 := by omega
          rw [hui]
          clear hui
          rw [HEND.out]
          have hsz := HF.out.kp.size
          go_wp2_with (first | (at_builtin; refine wp_app_int rfl _ _ rfl w0.heap.size (some ⟨g, 0, none⟩) j cp (il j (fun v => ((clsF L (portT X) M 0 v : Nat) : Int))) _ rfl HF.out.own _ rfl (by omega) hsz ?_; intro g6 c6 w6 hO6 hg6))
          have HR := Lib.hid (HF.out.app (Nat.le_refl _) rfl hO6 hg6)
          clear hO6 hg6
          go_roundw
          case rel => exact ⟨j + 1, g6, c6, by omega, by go_num, rfl, HR⟩
          case measure => simp [intOf]; omega
    · obtain rfl : v = m := by omega
      go_wp2_with fail
      go_loopw [1, 5] (fun i cv wi => ∃ (q g cp : Nat), q ≤ rr ∧ i = .int .i64 ((rr : Int) - q) ∧ cv = .slice (some ⟨g, 0, none⟩) v cp ∧ Hid (RF w0 w0.heap.size g cp v (fun x => (clsF L (portT X) M q x : Nat)) wi)) (fun i _ _ => (intOf i).toNat)
      case atStart => exact ⟨0, g, cp, by omega, by go_num, rfl, HF⟩
      case round =>
        clear HF g1
        obtain ⟨q, g, cp, hq, rfl, rfl, HF⟩ := hrel
        have g0 := cell_keeps HF.out.kp d0
        have g1 := cell_keeps HF.out.kp d1
        by_cases hltq : q < rr
        · have hqi : (q : Int) < rr := by omega
          have HU : Hid ((rr : Int) - q - 1 = (rr : Int) - ((q + 1 : Nat) : Int)) := Lib.hid (by omega)
          have CR := Lib.hid (refine_any (c := c) (d := d) (cc := cp) (k := clsF L (portT X) M q) wr (HN.out.keeps HF.out.kp) HOK.out (il_ints HF.out.own))
          go_wp2_with fail
          refine CR.out.mono ?_
          rintro e w2 ⟨g2, q2, rfl, hO2, hk2⟩
          have HF2 : Hid (RF w0 w0.heap.size g2 q2 v (fun x => (clsF L (portT X) M (q + 1) x : Nat)) w2) := Lib.hid ⟨hO2.mono HF.out.kp.size, HF.out.kp.step hk2⟩
          clear hO2 hk2
          go_wp2
          go_roundw
          case rel => exact ⟨q + 1, g2, q2, by omega, by rw [← HU.out], rfl, HF2⟩
          case measure => simp [intOf]; omega
        · obtain rfl : q = rr := by omega
          have hqq : (q : Int) - (q : Int) = 0 := by omega
          rw [hqq]
          clear hqq
          go_wp2
          go_ret
          exact ⟨g, cp, rfl, HF.out.own.mono HKA.out.size, HKA.out.step HF.out.kp⟩
set_option maxRecDepth 100000 in
set_option maxHeartbeats 4000000 in
theorem sClassesAt_any (A B : Option Addr) (m c mm d : Nat) (r : Nat → Option Addr × Nat × Nat) (L : Nat → Nat) (X : Nat → Nat → Int) (M : Nat → Int) (s : Int) (w : World) (hN : NetAt w A m r B mm L X M) :
    Calls Try.prog 32 #[.agg #[.slice A m c, .slice B mm d], .int .i64 s] w (GiveL (clsL m L X mm M s) w) := by
  have kA := Keeps.alloc w (.cells #[.slice A m c, .slice B mm d] 27)
  have hB := Blk.new w #[.slice A m c, .slice B mm d] 27
  have HB0 := Lib.hid (show (w.alloc (.cells #[.slice A m c, .slice B mm d] 27)).cell? ⟨w.heap.size, 0, none⟩ = some (.slice A m c) from hB.cell 0)
  have HB1 := Lib.hid (show (w.alloc (.cells #[.slice A m c, .slice B mm d] 27)).cell? ⟨w.heap.size, 1, none⟩ = some (.slice B mm d) from hB.cell 1)
  have CC := Lib.hid (svalidNet_any A B m c mm d r L X M _ (hN.keeps kA))
  have HN := Lib.hid (hN.keeps kA)
  clear hN hB
  cases v1 : netB m L X mm M
  · have HV : Hid (clsL m L X mm M s = []) := Lib.hid (by unfold clsL; rw [v1]; rfl)
    have V1 := Lib.hid v1
    clear v1
    go_enter Try.func32, Try.ntmps32
    go_wp2_with fail
    refine CC.out.mono ?_
    rintro e w1 ⟨rfl, hk1⟩
    rw [V1.out]
    go_wp2
    go_ret
    exact GiveL.nil HV.out (kA.step hk1)
  · cases v2 : inB s 0 6
    · have HV : Hid (clsL m L X mm M s = []) := Lib.hid (by unfold clsL; rw [v1, v2]; rfl)
      have V1 := Lib.hid v1
      have V2 := Lib.hid v2
      clear v1 v2
      go_enter Try.func32, Try.ntmps32
      go_wp2_with fail
      refine CC.out.mono ?_
      rintro e w1 ⟨rfl, hk1⟩
      rw [V1.out]
      have q0 := cell_keeps hk1 HB0.out
      have q1 := cell_keeps hk1 HB1.out
      go_wp2_with fail
      refine (inRange_any _ _ _ _).mono ?_
      rintro e w2 ⟨rfl, rfl⟩
      rw [V2.out]
      go_wp2
      go_ret
      exact GiveL.nil HV.out (kA.step hk1)
    · have ok := net_true v1
      have hs2 := inB_true v2
      obtain ⟨k, rfl⟩ := Int.eq_ofNat_of_zero_le hs2.1
      have HV : Hid (clsL m L X mm M k = il m (fun v => (clsF L (portT X) M k v : Nat))) := Lib.hid (by unfold clsL; rw [v1, v2]; rfl)
      have V1 := Lib.hid v1
      have V2 := Lib.hid v2
      have CF := Lib.hid (fun w' (hK : Keeps (w.alloc (.cells #[.slice A m c, .slice B mm d] 27)) w') => sclassesAt_any (c := c) (d := d) k w' (HN.out.keeps hK) ok (by omega))
      clear v1 v2 ok
      go_enter Try.func32, Try.ntmps32
      go_wp2_with fail
      refine CC.out.mono ?_
      rintro e w1 ⟨rfl, hk1⟩
      rw [V1.out]
      have q0 := cell_keeps hk1 HB0.out
      have q1 := cell_keeps hk1 HB1.out
      go_wp2_with fail
      refine (inRange_any _ _ _ _).mono ?_
      rintro e w2 ⟨rfl, rfl⟩
      rw [V2.out]
      go_wp2_with fail
      refine (CF.out _ hk1).mono ?_
      rintro e w2 ⟨g, cg, rfl, hO, hk2⟩
      have HO := Lib.hid hO
      clear hO
      go_wp2
      go_ret
      exact GiveL.of HV.out HO.out (kA.step hk1) hk2
set_option maxRecDepth 100000 in
set_option maxHeartbeats 2000000 in
theorem kinds_any (w : World) (hm : m ≤ 1099511627776) (hC : Ints w C m (fun x => (k x : Nat))) :
    Calls Try.prog 68 #[.slice C m cc] w fun e w' => e = .returned (.int .i64 (kindsN k m : Nat)) ∧ w = w' := by
  have HC := Lib.hid hC
  clear hC
  go_enter Try.func68, Try.ntmps68
  go_wp2_with fail
  go_loop [4, 3] (fun i n => ∃ v : Nat, v ≤ m ∧ i = .int .i64 v ∧ n = .int .i64 (cntB (fun v => k v == v) v : Nat)) (fun i _ => m - (intOf i).toNat)
  case atStart => exact ⟨0, by omega, rfl, rfl⟩
  case round =>
    obtain ⟨v, hv, rfl, rfl⟩ := hrel
    have hle := cntB_le (fun v => k v == v) v
    by_cases hlt : v < m
    · have hvi : (v : Int) < m := by omega
      obtain ⟨bC, oC, rfl, hcv⟩ := HC.out v hlt
      have HNX : Hid (cntB (fun v => k v == v) (v + 1) = cntB (fun v => k v == v) v + (if k v == v then 1 else 0)) := Lib.hid rfl
      (try dsimp only at hcv)
      generalize cntB (fun v => k v == v) v = n0 at *
      generalize k v = kv at *
      by_cases e : kv = v
      · have HV : Hid (cntB (fun v => k v == v) (v + 1) = n0 + 1) := Lib.hid (by rw [HNX.out, e]; simp)
        subst e
        go_wp2
        go_round
        case rel => exact ⟨kv + 1, by omega, by go_num, by rw [HV.out]; go_num⟩
        case measure => simp [intOf]; omega
      · have HV : Hid (cntB (fun v => k v == v) (v + 1) = n0) := Lib.hid (by rw [HNX.out]; simp [e])
        have hx : ((kv : Int) == (v : Int)) = false := by simp; omega
        clear e
        go_wp2
        go_round
        case rel => exact ⟨v + 1, by omega, by go_num, by rw [HV.out]⟩
        case measure => simp [intOf]; omega
    · obtain rfl : v = m := by omega
      go_wp2
      go_ret
      exact ⟨rfl, rfl⟩
end
end Go.Proofs.Ytdjilgbcpdlkfaa
