/-
  The contract of refine of the reference. Condition: a valid net.
-/
import Derived.Test.YtdjilgbcpdlkfaaClasses
import Derived.Deep.DeepCutAuto
import Derived.Deep.CutBlock
namespace Go.Proofs.Ytdjilgbcpdlkfaa
open Go.RowKit

/-- What the search has after the first u nodes. -/
def seenL (R : Nat → Nat → Bool) (v u : Nat) : Int := if leastN (fun x => R x v) u < u then (leastN (fun x => R x v) u : Nat) else -1
theorem seenL_next (R : Nat → Nat → Bool) (v u : Nat) : seenL R v (u + 1) = if seenL R v u < 0 then (if R u v then (u : Int) else -1) else seenL R v u := by
  have h1 := leastN_le (fun x => R x v) u
  unfold seenL
  rw [show leastN (fun x => R x v) (u + 1) = if leastN (fun x => R x v) u < u then leastN (fun x => R x v) u else if R u v then u else u + 1 from rfl]
  by_cases h : leastN (fun x => R x v) u < u
  · rw [if_pos h, if_pos (by omega), if_pos h, if_neg (by omega)]
  · rw [if_neg h, if_neg h, if_pos (show (-1 : Int) < 0 by omega)]
    cases R u v
    · rw [if_neg (by simp), if_neg (by simp)]
    · rw [if_pos rfl, if_pos rfl, if_pos (by omega)]
theorem seenL_end (R : Nat → Nat → Bool) (v : Nat) : (if seenL R v v < 0 then (v : Int) else seenL R v v) = (repF R v : Nat) := by
  have h1 := leastN_le (fun x => R x v) v
  unfold seenL repF
  by_cases h : leastN (fun x => R x v) v < v
  · rw [if_pos h, if_neg (by omega)]
  · rw [if_neg h, if_pos (by omega)]
    omega
theorem seenL_range (R : Nat → Nat → Bool) (v u : Nat) : -1 ≤ seenL R v u ∧ seenL R v u < u := by
  have h1 := leastN_le (fun x => R x v) u
  unfold seenL
  split <;> omega
structure RF (w0 : World) (lo g cp v : Nat) (x : Nat → Int) (w : World) : Prop where
  own : OwnInts w lo (some ⟨g, 0, none⟩) v cp (il v x)
  kp : Keeps w0 w
theorem RF.keeps {w0 : World} {lo g cp v : Nat} {x : Nat → Int} {w w' : World} (h : RF w0 lo g cp v x w) (k : Keeps w w') : RF w0 lo g cp v x w' := ⟨h.own.keeps k, h.kp.step k⟩
theorem RF.app {w0 : World} {lo g cp v : Nat} {x : Nat → Int} {w : World} (h : RF w0 lo g cp v x w) (hlo : w0.heap.size ≤ lo) {g6 c6 : Nat} {w6 : World} {y : Int} (hy : y = x v) (hO : OwnInts w6 lo (some ⟨g6, 0, none⟩) (v + 1) c6 (il v x ++ [y])) (hg : w.grownBy w6 ((some (⟨g, 0, none⟩ : Addr)).map (·.block))) : RF w0 lo g6 c6 (v + 1) x w6 :=
  ⟨by rw [il_succ, ← hy]; exact hO, h.kp.grown h.own hlo hg⟩
theorem alike_bad {L : Nat → Nat} {T : Nat → Nat → Nat} {k : Nat → Nat} {u v : Nat} (h : (k u == k v && (L u == L v)) = false) : alikeB L T k u v = false := by unfold alikeB; rw [h]; rfl
theorem alike_good {L : Nat → Nat} {T : Nat → Nat → Nat} {k : Nat → Nat} {u v : Nat} (h : (k u == k v && (L u == L v)) = true) : alikeB L T k u v = !anyB (linkBad L T k u v) (L v) := by unfold alikeB; rw [h]; rfl
section
variable {A B C : Option Addr} {m c mm d cc : Nat} {r : Nat → Option Addr × Nat × Nat} {L : Nat → Nat} {X : Nat → Nat → Int} {M : Nat → Int} {k : Nat → Nat}
set_option maxRecDepth 100000 in
set_option maxHeartbeats 16000000 in
theorem refine_any (w : World) (hN : NetAt w A m r B mm L X M) (ok : NetOk m L X mm M) (hC : Ints w C m (fun x => (k x : Nat))) :
    Calls Try.prog 81 #[.agg #[.slice A m c, .slice B mm d], .slice C m cc] w (GiveInts m (fun v => (repF (alikeB L (portT X) k) v : Nat)) w) := by
  have hm6 := ok.hi
  have hmb := hN.mb
  have kA := Keeps.alloc w (.cells #[.slice A m c, .slice B mm d] 27)
  have hB1 := Blk.new w #[.slice A m c, .slice B mm d] 27
  have d0 : (w.alloc (.cells #[.slice A m c, .slice B mm d] 27)).cell? ⟨w.heap.size, 0, none⟩ = some (.slice A m c) := hB1.cell 0
  have d1 : (w.alloc (.cells #[.slice A m c, .slice B mm d] 27)).cell? ⟨w.heap.size, 1, none⟩ = some (.slice B mm d) := hB1.cell 1
  have HN := Lib.hid (hN.keeps kA)
  have HC : Hid (Ints (w.alloc (.cells #[.slice A m c, .slice B mm d] 27)) C m (fun x => (k x : Nat))) := Lib.hid (hC.keeps kA)
  generalize hw0 : w.alloc (.cells #[.slice A m c, .slice B mm d] 27) = w0 at *
  generalize hbx : w.heap.size = bx at *
  have HW0 := Lib.hid hw0
  have HBX := Lib.hid hbx
  have HKA := Lib.hid kA
  have HOK := Lib.hid ok
  have HPORT := Lib.hid ok.port
  have HNODE := Lib.hid ok.node
  have HRF0 : Hid (RF w0 w0.heap.size w0.heap.size 0 0 (fun v => (repF (alikeB L (portT X) k) v : Nat)) (w0.alloc (.cells #[] 3))) := Lib.hid ⟨OwnInts.made w0 w0.heap.size (Nat.le_refl _), Keeps.alloc _ _⟩
  clear hN hC kA hB1 hw0 ok hbx
  go_enter Try.func81, Try.ntmps81
  go_upto_region 1 with fail
  rw [HBX.out, HW0.out]
  go_wp2_with fail
  go_loopw [6, 5] (fun i cv wr => ∃ (v g cp : Nat), v ≤ m ∧ i = .int .i64 v ∧ cv = .slice (some ⟨g, 0, none⟩) v cp ∧ Hid (RF w0 w0.heap.size g cp v (fun v => (repF (alikeB L (portT X) k) v : Nat)) wr)) (fun i _ _ => m - (intOf i).toNat)
  case atStart => exact ⟨0, _, 0, by omega, rfl, rfl, HRF0⟩
  case round =>
    clear HRF0
    obtain ⟨v, g, cp, hv, rfl, rfl, HF⟩ := hrel
    by_cases hlt : v < m
    · have hvi : (v : Int) < m := by omega
      have HEND := Lib.hid (seenL_end (alikeB L (portT X) k) v)
      go_wp2_with fail
      go_loopw [8, 7] (fun i lv wi => ∃ u : Nat, u ≤ v ∧ i = .int .i64 u ∧ lv = .int .i64 (seenL (alikeB L (portT X) k) v u) ∧ Hid (RF w0 w0.heap.size g cp v (fun v => (repF (alikeB L (portT X) k) v : Nat)) wi)) (fun i _ _ => v - (intOf i).toNat)
      case atStart => exact ⟨0, by omega, rfl, rfl, HF⟩
      case round =>
        clear HF
        obtain ⟨u, hu, rfl, rfl, HF⟩ := hrel
        by_cases hltu : u < v
        · have hui : (u : Int) < m := by omega
          have hulv : (u : Int) < v := by omega
          have hum : u < m := by omega
          have HSN := Lib.hid (seenL_next (alikeB L (portT X) k) v u)
          have HSR := Lib.hid (seenL_range (alikeB L (portT X) k) v u)
          obtain ⟨⟨bA, oA, rfl, hcU⟩, hrowU⟩ := HN.out.rows u hum
          obtain ⟨⟨_, _, eA, hcV⟩, hrowV⟩ := HN.out.rows v hlt
          cases eA
          have hlu := HN.out.len u hum
          have hlv := HN.out.len v hlt
          have hcapu := HN.out.cap u hum
          have hcapv := HN.out.cap v hlt
          obtain ⟨bC, oC, rfl, hcCu⟩ := HC.out u hum
          obtain ⟨_, _, eC, hcCv⟩ := HC.out v hlt
          cases eC
          (try dsimp only at hcCu hcCv)
          obtain ⟨ua, un, uc, hru⟩ : ∃ ua un uc, r u = (ua, un, uc) := ⟨_, _, _, rfl⟩
          obtain ⟨va, vn, vc, hrv⟩ : ∃ va vn vc, r v = (va, vn, vc) := ⟨_, _, _, rfl⟩
          rw [hru] at hcU hlu hcapu hrowU
          rw [hrv] at hcV hlv hcapv hrowV
          dsimp only at hcU hcV hlu hlv hcapu hcapv hrowU hrowV
          have HLB : Hid (((k u == k v) && (un == vn)) = false → alikeB L (portT X) k u v = false) := Lib.hid (fun h => alike_bad (by rw [← hlu, ← hlv]; exact h))
          have HLG : Hid (((k u == k v) && (un == vn)) = true → alikeB L (portT X) k u v = !anyB (linkBad L (portT X) k u v) vn) := Lib.hid (fun h => by rw [alike_good (by rw [← hlu, ← hlv]; exact h), ← hlv])
          have HLNK : Hid (∀ p, linkBad L (portT X) k u v p = (!(k (portT X u p) == k (portT X v p)) || !(backF L (portT X) u p == backF L (portT X) v p))) := Lib.hid (fun p => rfl)
          have HRU := Lib.hid hrowU
          have HRV := Lib.hid hrowV
          have HLU := Lib.hid hlu
          have HLV := Lib.hid hlv
          have gU := cell_keeps HF.out.kp hcU
          have gV := cell_keeps HF.out.kp hcV
          have gCu := cell_keeps HF.out.kp hcCu
          have gCv := cell_keeps HF.out.kp hcCv
          have g0 := cell_keeps HF.out.kp d0
          have HCV := Lib.hid hcV
          have HCU := Lib.hid hcU
          clear hrowU hrowV hlu hlv hru hrv hcU hcV hcCu hcCv
          generalize seenL (alikeB L (portT X) k) v u = sl at *
          obtain ⟨sn, hsn⟩ : ∃ sn, sn = seenL (alikeB L (portT X) k) v (u + 1) := ⟨_, rfl⟩
          rw [← hsn] at HSN
          have HSNE := Lib.hid hsn
          clear hsn
          generalize alikeB L (portT X) k u v = ab at *
          go_wp2_with fail
          go_cut [9] (fun sv wx => sv = .bool ((k u == k v) && (un == vn)) ∧ Hid (RF w0 w0.heap.size g cp v (fun v => (repF (alikeB L (portT X) k) v : Nat)) wx))
          case first =>
            have HFD := Lib.hid (HF.out.keeps (Keeps.drew1 _))
            generalize k u = ku at *
            generalize k v = kv at *
            by_cases e1 : ku = kv
            · have hkn : ((ku : Int) == (kv : Int)) = true := by simp [e1]
              have hkk : (ku == kv) = true := by simp [e1]
              clear e1
              go_region_held3 (fun w' => w'.cell? ⟨bx, 0, none⟩ = some (.slice (some ⟨bA, oA, none⟩) m c) ∧ w'.cell? ⟨bA, oA + u, none⟩ = some (.slice ua un uc) ∧ w'.cell? ⟨bA, oA + v, none⟩ = some (.slice va vn vc) ∧ w'.cell? ⟨bC, oC + u, none⟩ = some (.int .i64 ku) ∧ w'.cell? ⟨bC, oC + v, none⟩ = some (.int .i64 kv)) (first | exact ⟨g0, gU, gV, gCu, gCv⟩) (fail)
              go_wp2_with fail
              go_meet
              exact ⟨by congr 1; rw [hkk, Bool.true_and, Bool.eq_iff_iff]; simp only [beq_iff_eq]; omega, HFD⟩
            · have hkn : ((ku : Int) == (kv : Int)) = false := by simp; omega
              have hkk : (ku == kv) = false := by simp [e1]
              clear e1
              go_region
              all_goals
                go_wp2_with fail
                go_meet
                exact ⟨by rw [hkk]; rfl, HFD⟩
          case rest =>
            clear HF gU gV gCu gCv g0
            obtain ⟨rfl, HF⟩ := hcut
            have HS0 : Hid (((k u == k v) && (un == vn)) = true → un = vn) := Lib.hid (fun h => by rw [Bool.and_eq_true] at h; simpa using h.2)
            generalize ((k u == k v) && (un == vn)) = s0 at *
            go_wp2_with fail
            go_loopw [10, 9] (fun i sv wi => ∃ (q : Nat) (sm : Bool), q ≤ vn ∧ i = .int .i64 q ∧ sv = .bool sm ∧ Hid (sm = true → s0 = true ∧ anyB (linkBad L (portT X) k u v) q = false) ∧ Hid (sm = false → ab = false) ∧ Hid (RF w0 w0.heap.size g cp v (fun v => (repF (alikeB L (portT X) k) v : Nat)) wi)) (fun i _ _ => vn - (intOf i).toNat)
            case atStart => exact ⟨0, s0, by omega, rfl, rfl, Lib.hid (fun h => ⟨h, rfl⟩), HLB, HF⟩
            case round =>
              clear HF HLB
              obtain ⟨q, sm, hq, rfl, rfl, HT, HB, HF⟩ := hrel
              have g0 := cell_keeps HF.out.kp d0
              have g1 := cell_keeps HF.out.kp d1
              have gV := cell_keeps HF.out.kp HCV.out
              by_cases hltq : q < vn
              · have hqi : (q : Int) < vn := by omega
                cases sm
                · have HAB := Lib.hid (HB.out rfl)
                  rw [HAB.out] at HSN
                  clear HT HB
                  by_cases hsl : sl < 0
                  · have HV : Hid (sl = sn) := Lib.hid (by have := HSR.out.1; rw [HSN.out, if_pos hsl, if_neg (by simp)]; omega)
                    go_wp2
                    go_roundw
                    case rel => exact ⟨u + 1, by omega, by go_num, by rw [← HSNE.out, ← HV.out], HF⟩
                    case measure => simp [intOf]; omega
                  · have HV : Hid (sl = sn) := Lib.hid (by rw [HSN.out, if_neg hsl])
                    go_wp2
                    go_roundw
                    case rel => exact ⟨u + 1, by omega, by go_num, by rw [← HSNE.out, ← HV.out], HF⟩
                    case measure => simp [intOf]; omega
                · obtain ⟨hs0, hany⟩ := HT.out rfl
                  have heq := HS0.out hs0
                  have hqu : q < un := by omega
                  have hqui : (q : Int) < un := by omega
                  have hXu := HPORT.out u q hum (by rw [← HLU.out]; exact hqu)
                  have hXv := HPORT.out v q hlt (by rw [← HLV.out]; exact hltq)
                  have htu := HNODE.out u q hum (by rw [← HLU.out]; exact hqu)
                  have htv := HNODE.out v q hlt (by rw [← HLV.out]; exact hltq)
                  have CU : Hid (∀ w', Keeps w0 w' → Calls Try.prog 73 #[.agg #[.slice (some ⟨bA, oA, none⟩) m c, .slice B mm d], .int .i64 u, .int .i64 q] w' fun e w'' => e = .returned (.int .i64 (backF L (portT X) u q)) ∧ Keeps w' w'') := Lib.hid (fun w' hk => by
                    rw [← back_eq HOK.out hum (by rw [← HLU.out]; exact hqu)]
                    exact backPort_any _ B m c mm d r L X M u q w' (HN.out.keeps hk) hum (by rw [← HLU.out]; exact hqu) htu hXu)
                  have CV : Hid (∀ w', Keeps w0 w' → Calls Try.prog 73 #[.agg #[.slice (some ⟨bA, oA, none⟩) m c, .slice B mm d], .int .i64 v, .int .i64 q] w' fun e w'' => e = .returned (.int .i64 (backF L (portT X) v q)) ∧ Keeps w' w'') := Lib.hid (fun w' hk => by
                    rw [← back_eq HOK.out hlt (by rw [← HLV.out]; exact hltq)]
                    exact backPort_any _ B m c mm d r L X M v q w' (HN.out.keeps hk) hlt (by rw [← HLV.out]; exact hltq) htv hXv)
                  obtain ⟨bRu, oRu, rfl, hcXu⟩ := HRU.out q hqu
                  obtain ⟨bRv, oRv, rfl, hcXv⟩ := HRV.out q hltq
                  rw [hXu] at hcXu
                  rw [hXv] at hcXv
                  obtain ⟨_, _, eC1, hcT⟩ := HC.out _ htu
                  cases eC1
                  obtain ⟨_, _, eC2, hcW⟩ := HC.out _ htv
                  cases eC2
                  (try dsimp only at hcT hcW)
                  have HNX : Hid (anyB (linkBad L (portT X) k u v) (q + 1) = (!(k (portT X u q) == k (portT X v q)) || !(backF L (portT X) u q == backF L (portT X) v q))) := Lib.hid (by
                    have : anyB (linkBad L (portT X) k u v) (q + 1) = (anyB (linkBad L (portT X) k u v) q || linkBad L (portT X) k u v q) := rfl
                    rw [this, hany, HLNK.out]; rfl)
                  have HBADQ : Hid (anyB (linkBad L (portT X) k u v) (q + 1) = true → ab = false) := Lib.hid (fun h => by
                    rw [HLG.out hs0, anyB_up h hltq]; rfl)
                  have hS0 := Lib.hid hs0
                  have gXu := cell_keeps HF.out.kp hcXu
                  have gXv := cell_keeps HF.out.kp hcXv
                  have gT := cell_keeps HF.out.kp hcT
                  have gW := cell_keeps HF.out.kp hcW
                  have gU := cell_keeps HF.out.kp HCU.out
                  have hKF := HF.out.kp
                  clear hXu hXv hcXu hcXv hcT hcW hany hs0 HT HB
                  generalize k (portT X u q) = x1 at *
                  generalize k (portT X v q) = x2 at *
                  generalize portT X u q = tu at *
                  generalize portT X v q = tv at *
                  generalize backF L (portT X) u q = y1 at *
                  generalize backF L (portT X) v q = y2 at *
                  have htui : (tu : Int) < m := by omega
                  have htvi : (tv : Int) < m := by omega
                  by_cases e3 : x1 = x2
                  · have hx : ((x1 : Int) == (x2 : Int)) = true := by simp [e3]
                    go_wp2_with fail
                    go_region_held3 (fun w' => w'.cell? ⟨bx, 0, none⟩ = some (.slice (some ⟨bA, oA, none⟩) m c) ∧ w'.cell? ⟨bx, 1, none⟩ = some (.slice B mm d) ∧ w'.cell? ⟨bA, oA + u, none⟩ = some (.slice (some ⟨bRu, oRu, none⟩) un uc) ∧ w'.cell? ⟨bA, oA + v, none⟩ = some (.slice (some ⟨bRv, oRv, none⟩) vn vc) ∧ w'.cell? ⟨bRu, oRu + q, none⟩ = some (.int .i64 tu) ∧ w'.cell? ⟨bRv, oRv + q, none⟩ = some (.int .i64 tv) ∧ w'.cell? ⟨bC, oC + tu, none⟩ = some (.int .i64 x1) ∧ w'.cell? ⟨bC, oC + tv, none⟩ = some (.int .i64 x2) ∧ Keeps wr w') (first | exact ⟨cell_keeps hk6 q0, cell_keeps hk6 q1, cell_keeps hk6 q2, cell_keeps hk6 q3, cell_keeps hk6 q4, cell_keeps hk6 q5, cell_keeps hk6 q6, cell_keeps hk6 q7, q8.step hk6⟩ | exact ⟨cell_keeps hk5 q0, cell_keeps hk5 q1, cell_keeps hk5 q2, cell_keeps hk5 q3, cell_keeps hk5 q4, cell_keeps hk5 q5, cell_keeps hk5 q6, cell_keeps hk5 q7, q8.step hk5⟩ | exact ⟨g0, g1, gU, gV, gXu, gXv, gT, gW, Keeps.drew1 _⟩) (first | (go_at_call 73; obtain ⟨q0, q1, q2, q3, q4, q5, q6, q7, q8⟩ : _ ∧ _ ∧ _ ∧ _ ∧ _ ∧ _ ∧ _ ∧ _ ∧ Keeps wr _ := (by assumption); (with_reducible refine (CU.out _ (hKF.step q8)).mono ?_); rintro e w5 ⟨rfl, hk5⟩) | (go_at_call 73; obtain ⟨q0, q1, q2, q3, q4, q5, q6, q7, q8⟩ : _ ∧ _ ∧ _ ∧ _ ∧ _ ∧ _ ∧ _ ∧ _ ∧ Keeps wr _ := (by assumption); (with_reducible refine (CV.out _ (hKF.step q8)).mono ?_); rintro e w6 ⟨rfl, hk6⟩))
                    have HFD := Lib.hid (HF.out.keeps (q8.step hk6))
                    by_cases e4 : y1 = y2
                    · have HV : Hid (anyB (linkBad L (portT X) k u v) (q + 1) = false) := Lib.hid (by rw [HNX.out, e3, e4]; simp)
                      have hy : (y1 == y2) = true := by simp [e4]
                      go_wp2_with fail
                      go_roundw
                      case rel => exact ⟨q + 1, true, by omega, by go_num, by rw [hy], Lib.hid (fun _ => ⟨hS0.out, HV.out⟩), Lib.hid (fun h => by cases h), HFD⟩
                      case measure => simp [intOf]; omega
                    · have HV := Lib.hid (HBADQ.out (by rw [HNX.out]; simp [e4]))
                      have hy : (y1 == y2) = false := by simp [e4]
                      go_wp2_with fail
                      go_roundw
                      case rel => exact ⟨q + 1, false, by omega, by go_num, by rw [hy], Lib.hid (fun h => by cases h), Lib.hid (fun _ => HV.out), HFD⟩
                      case measure => simp [intOf]; omega
                  · have hx : ((x1 : Int) == (x2 : Int)) = false := by simp; omega
                    have HV := Lib.hid (HBADQ.out (by rw [HNX.out]; simp [e3]))
                    have HFD := Lib.hid (HF.out.keeps (Keeps.drew1 _))
                    go_wp2_with fail
                    go_region
                    all_goals
                      go_wp2
                      go_roundw
                      case rel => exact ⟨q + 1, false, by omega, by go_num, rfl, Lib.hid (fun h => by cases h), Lib.hid (fun _ => HV.out), HFD⟩
                      case measure => simp [intOf]; omega
              · obtain rfl : q = vn := by omega
                cases sm
                · have HAB := Lib.hid (HB.out rfl)
                  rw [HAB.out] at HSN
                  clear HT HB
                  by_cases hsl : sl < 0
                  · have HV : Hid (sl = sn) := Lib.hid (by have := HSR.out.1; rw [HSN.out, if_pos hsl, if_neg (by simp)]; omega)
                    go_wp2
                    go_roundw
                    case rel => exact ⟨u + 1, by omega, by go_num, by rw [← HSNE.out, ← HV.out], HF⟩
                    case measure => simp [intOf]; omega
                  · have HV : Hid (sl = sn) := Lib.hid (by rw [HSN.out, if_neg hsl])
                    go_wp2
                    go_roundw
                    case rel => exact ⟨u + 1, by omega, by go_num, by rw [← HSNE.out, ← HV.out], HF⟩
                    case measure => simp [intOf]; omega
                · have HAB : Hid (ab = true) := Lib.hid (by rw [HLG.out (HT.out rfl).1, (HT.out rfl).2]; rfl)
                  rw [HAB.out] at HSN
                  clear HT HB
                  by_cases hsl : sl < 0
                  · have HV : Hid ((u : Int) = sn) := Lib.hid (by rw [HSN.out, if_pos hsl, if_pos rfl])
                    go_wp2
                    go_roundw
                    case rel => exact ⟨u + 1, by omega, by go_num, by rw [← HSNE.out, ← HV.out], HF⟩
                    case measure => simp [intOf]; omega
                  · have HV : Hid (sl = sn) := Lib.hid (by rw [HSN.out, if_neg hsl])
                    go_wp2
                    go_roundw
                    case rel => exact ⟨u + 1, by omega, by go_num, by rw [← HSNE.out, ← HV.out], HF⟩
                    case measure => simp [intOf]; omega
        · obtain rfl : u = v := by omega
          have hsz := HF.out.kp.size
          generalize seenL (alikeB L (portT X) k) u u = sl at *
          by_cases hsl : sl < 0
          · have HV : Hid ((u : Int) = (repF (alikeB L (portT X) k) u : Nat)) := Lib.hid (by rw [← HEND.out, if_pos hsl])
            go_wp2_with (first | (at_builtin; refine wp_app_int rfl _ _ rfl w0.heap.size (some ⟨g, 0, none⟩) u cp (il u (fun v => ((repF (alikeB L (portT X) k) v : Nat) : Int))) _ rfl HF.out.own _ rfl (by omega) hsz ?_; intro g6 c6 w6 hO6 hg6))
            have HR := Lib.hid (HF.out.app (Nat.le_refl _) HV.out hO6 hg6)
            clear hO6 hg6
            go_roundw
            case rel => exact ⟨u + 1, g6, c6, by omega, by go_num, rfl, HR⟩
            case measure => simp [intOf]; omega
          · have HV : Hid (sl = (repF (alikeB L (portT X) k) u : Nat)) := Lib.hid (by rw [← HEND.out, if_neg hsl])
            go_wp2_with (first | (at_builtin; refine wp_app_int rfl _ _ rfl w0.heap.size (some ⟨g, 0, none⟩) u cp (il u (fun v => ((repF (alikeB L (portT X) k) v : Nat) : Int))) _ rfl HF.out.own _ rfl (by omega) hsz ?_; intro g6 c6 w6 hO6 hg6))
            have HR := Lib.hid (HF.out.app (Nat.le_refl _) HV.out hO6 hg6)
            clear hO6 hg6
            go_roundw
            case rel => exact ⟨u + 1, g6, c6, by omega, by go_num, rfl, HR⟩
            case measure => simp [intOf]; omega
    · obtain rfl : v = m := by omega
      go_wp2
      go_ret
      exact ⟨g, cp, rfl, HF.out.own.mono HKA.out.size, HKA.out.step HF.out.kp⟩
end
end Go.Proofs.Ytdjilgbcpdlkfaa
