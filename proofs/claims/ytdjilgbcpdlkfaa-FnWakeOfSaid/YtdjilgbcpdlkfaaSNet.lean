/-
  The contracts of ValidNet of the reference, and of nodeIn. No condition.
-/
import Derived.Test.YtdjilgbcpdlkfaaNet
namespace Go.Proofs.Ytdjilgbcpdlkfaa
open Go.RowKit

def vbadB (m : Nat) (L : Nat → Nat) (X : Nat → Nat → Int) (M : Nat → Int) (v : Nat) : Bool := !inB (M v) 0 20 || anyB (sbadB m X v) (L v)
theorem net_badM {m : Nat} {L : Nat → Nat} {X : Nat → Nat → Int} {mm : Nat} {M : Nat → Int} {v : Nat} (hv : v < m) (h : inB (M v) 0 20 = false) : false = netB m L X mm M := by
  refine netB_not m L X mm M fun e => ?_
  have := (net_true e).marks v hv
  rw [inB_mk this.1 this.2] at h
  cases h
theorem net_badF {m : Nat} {L : Nat → Nat} {X : Nat → Nat → Int} {mm : Nat} {M : Nat → Int} {v : Nat} (hv : v < m) (h : farF m L (portT X) 0 v < 0) : false = netB m L X mm M := by
  refine netB_not m L X mm M fun e => ?_
  have := (net_true e).reach v hv
  omega
theorem vbad_split {m : Nat} {L : Nat → Nat} {X : Nat → Nat → Int} {M : Nat → Int} (h : anyB (vbadB m L X M) m = false) : anyB (fun v => !inB (M v) 0 20) m = false ∧ anyB (fun v => anyB (sbadB m X v) (L v)) m = false := by
  have key : ∀ v, v < m → (!inB (M v) 0 20) = false ∧ anyB (sbadB m X v) (L v) = false := fun v hv => by
    have := (anyB_false _ _).1 h v hv
    unfold vbadB at this
    rwa [Bool.or_eq_false_iff] at this
  exact ⟨(anyB_false _ _).2 fun v hv => (key v hv).1, (anyB_false _ _).2 fun v hv => (key v hv).2⟩
theorem net_fin2 {m : Nat} {L : Nat → Nat} {X : Nat → Nat → Int} {M : Nat → Int} (h1 : inB m 1 6 = true) (h : anyB (vbadB m L X M) m = false) (h5 : anyB (fun v => anyB (bbadB L X v) (L v)) m = false) (h6 : anyB (fun v => decide (farF m L (portT X) 0 v < 0)) m = false) : true = netB m L X m M := by
  obtain ⟨h3, h4⟩ := vbad_split h
  unfold netB
  rw [h1, h3, h4, h5, h6]
  simp
set_option maxRecDepth 100000 in
set_option maxHeartbeats 2000000 in
theorem backPort_any (A B : Option Addr) (m c mm d : Nat) (r : Nat → Option Addr × Nat × Nat) (L : Nat → Nat) (X : Nat → Nat → Int) (M : Nat → Int) (v p : Nat) (w : World) (hN : NetAt w A m r B mm L X M) (hv : v < m) (hp : p < L v) (hu : portT X v p < m) (hX : X v p = (portT X v p : Nat)) :
    Calls Try.prog 73 #[.agg #[.slice A m c, .slice B mm d], .int .i64 v, .int .i64 p] w fun e w' => e = .returned (.int .i64 (idxB (fun q => X (portT X v p) q == (v : Int)) (L (portT X v p)))) ∧ Keeps w w' := by
  have kA := Keeps.alloc w (.cells #[.slice A m c, .slice B mm d] 27)
  have hB := Blk.new w #[.slice A m c, .slice B mm d] 27
  have b0 : (w.alloc (.cells #[.slice A m c, .slice B mm d] 27)).cell? ⟨w.heap.size, 0, none⟩ = some (.slice A m c) := hB.cell 0
  have hN1 := hN.keeps kA
  have hmb := hN.mb
  clear hN hB
  generalize hw0 : w.alloc (.cells #[.slice A m c, .slice B mm d] 27) = w0 at *
  have HW0 := Lib.hid hw0
  obtain ⟨⟨bA, oA, rfl, hcV⟩, hrowV⟩ := hN1.rows v hv
  have hlv := hN1.len v hv
  have hcapv := hN1.cap v hv
  rw [← hlv] at hp
  obtain ⟨bR, oR, eR, hcX⟩ := hrowV p hp
  rw [hX] at hcX
  obtain ⟨⟨_, _, eA, hcU⟩, hrowU⟩ := hN1.rows (portT X v p) hu
  cases eA
  have hlu := hN1.len (portT X v p) hu
  have hcapu := hN1.cap (portT X v p) hu
  generalize portT X v p = u at *
  obtain ⟨ua, un, uc, hru⟩ : ∃ ua un uc, r u = (ua, un, uc) := ⟨_, _, _, rfl⟩
  obtain ⟨va, vn, vc, hrv⟩ : ∃ va vn vc, r v = (va, vn, vc) := ⟨_, _, _, rfl⟩
  rw [hru] at hcU hrowU hlu hcapu
  rw [hrv] at hcV hp eR hcapv
  dsimp only at hcU hlu hcV hp eR hcapu hcapv
  subst eR
  subst hlu
  have HROW := Lib.hid hrowU
  have hvi : (v : Int) < m := by omega
  have hui : (u : Int) < m := by omega
  have hpi : (p : Int) < vn := by omega
  clear hN1 hrowU hrowV hru hrv hlv hX hw0
  go_enter Try.func73, Try.ntmps73
  go_upto_region 1 with fail
  rw [HW0.out]
  generalize hbx : w.heap.size = bx at *
  go_wp2_with fail
  go_loop [8] (fun i => ∃ k : Nat, k ≤ L u ∧ i = .int .i64 k ∧ Hid (∀ j, j < k → (X u j == (v : Int)) = false)) (fun i => L u - (intOf i).toNat)
  case atStart => exact ⟨0, by omega, rfl, Lib.hid (fun _ h => absurd h (Nat.not_lt_zero _))⟩
  case round =>
    obtain ⟨k, hk, rfl, hb⟩ := hrel
    by_cases hlt : k < L u
    · have hki : (k : Int) < L u := by omega
      obtain ⟨bU, oU, e, hcu⟩ := HROW.out k hlt
      (try dsimp only at e hcu)
      subst e
      cases hpk : (X u k == (v : Int))
      · have HP := Lib.hid hpk
        go_wp2
        go_round
        case rel =>
          refine ⟨k + 1, by omega, by go_num, Lib.hid (fun j hj => ?_)⟩
          by_cases hjk : j = k
          · rw [hjk]; exact HP.out
          · exact hb.out j (by omega)
        case measure => simp [intOf]; omega
      · have HP := Lib.hid hpk
        go_wp2
        go_ret
        exact ⟨ret_int (idxB_at (fun q => X u q == (v : Int)) (L u) k hlt HP.out hb.out), kA⟩
    · obtain rfl : k = L u := by omega
      go_wp2
      go_ret
      exact ⟨ret_int (idxB_none (fun q => X u q == (v : Int)) (L u) hb.out), kA⟩
set_option maxRecDepth 100000 in
set_option maxHeartbeats 8000000 in
theorem svalidNet_any (A B : Option Addr) (m c mm d : Nat) (r : Nat → Option Addr × Nat × Nat) (L : Nat → Nat) (X : Nat → Nat → Int) (M : Nat → Int) (w : World) (hN : NetAt w A m r B mm L X M) :
    Calls Try.prog 52 #[.agg #[.slice A m c, .slice B mm d]] w fun e w' => e = .returned (.bool (netB m L X mm M)) ∧ Keeps w w' := by
  have kA := Keeps.alloc w (.cells #[.slice A m c, .slice B mm d] 27)
  have hB := Blk.new w #[.slice A m c, .slice B mm d] 27
  have b0 : (w.alloc (.cells #[.slice A m c, .slice B mm d] 27)).cell? ⟨w.heap.size, 0, none⟩ = some (.slice A m c) := hB.cell 0
  have b1 : (w.alloc (.cells #[.slice A m c, .slice B mm d] 27)).cell? ⟨w.heap.size, 1, none⟩ = some (.slice B mm d) := hB.cell 1
  have hmb := hN.mb
  have hmmb := hN.mmb
  have HN := Lib.hid (hN.keeps kA)
  clear hN hB
  go_enter Try.func52, Try.ntmps52
  go_upto_region 1 with fail
  generalize hw0 : w.alloc (.cells #[.slice A m c, .slice B mm d] 27) = w0 at *
  generalize hbx : w.heap.size = bx at *
  have HB0 := Lib.hid b0
  have HB1 := Lib.hid b1
  clear hw0
  cases v1 : inB m 1 6
  · have HV := Lib.hid (netB_not m L X mm M (fun h => by have := net_true h; have h2 := inB_false v1; have h3 := this.lo; have h4 := this.hi; omega))
    have V1 := Lib.hid v1
    clear v1
    go_wp2_with fail
    refine (inRange_any _ _ _ _).mono ?_
    rintro e w1 ⟨rfl, rfl⟩
    rw [V1.out]
    go_wp2
    go_ret
    exact ⟨ret_bool HV.out, kA⟩
  · have h16 := inB_true v1
    have V1 := Lib.hid v1
    clear v1
    by_cases hmm : mm = m
    · subst hmm
      have hne : ((mm : Int) != (mm : Int)) = false := by simp
      go_wp2_with fail
      refine (inRange_any _ _ _ _).mono ?_
      rintro e w1 ⟨rfl, rfl⟩
      rw [V1.out]
      go_wp2_with fail
      go_loopw [4] (fun i wr => ∃ k : Nat, k ≤ mm ∧ i = .int .i64 k ∧ Hid (anyB (vbadB mm L X M) k = false) ∧ Keeps w0 wr) (fun i _ => mm - (intOf i).toNat)
      case atStart => exact ⟨0, by omega, rfl, Lib.hid rfl, Keeps.refl _⟩
      case round =>
        clear b0 b1
        obtain ⟨k, hk, rfl, HA, hK⟩ := hrel
        have q0 := cell_keeps hK HB0.out
        have q1 := cell_keeps hK HB1.out
        by_cases hlt : k < mm
        · have hki : (k : Int) < mm := by omega
          obtain ⟨bM, oM, rfl, hcM0⟩ := HN.out.marks k hlt
          have hcM := cell_keeps hK hcM0
          obtain ⟨⟨bA, oA, rfl, hcA0⟩, _⟩ := HN.out.rows k hlt
          have HCA := Lib.hid hcA0
          have HROW := Lib.hid ((HN.out.rows k hlt).2)
          have hLv := HN.out.len k hlt
          have hcap := HN.out.cap k hlt
          have HANX := Lib.hid (show anyB (vbadB mm L X M) (k + 1) = (anyB (vbadB mm L X M) k || (!inB (M k) 0 20 || anyB (sbadB mm X k) (L k))) from rfl)
          have HBM : Hid (inB (M k) 0 20 = false → false = netB mm L X mm M) := Lib.hid (fun h => net_badM hlt h)
          generalize M k = z0 at *
          obtain ⟨ra, rn, rc, hrv⟩ : ∃ ra rn rc, r k = (ra, rn, rc) := ⟨_, _, _, rfl⟩
          rw [hrv] at HCA HROW hLv hcap
          dsimp only at hLv hcap
          have HLV := Lib.hid hLv
          have hrn : rn ≤ 9223372036854775807 := by omega
          clear hLv hrv hcA0 hcM0
          cases e0 : inB z0 0 20
          · have HV := Lib.hid (HBM.out e0)
            have E0 := Lib.hid e0
            clear e0
            go_wp2_with fail
            refine (inRange_any _ _ _ _).mono ?_
            rintro e w5 ⟨rfl, rfl⟩
            rw [E0.out]
            go_wp2
            go_ret
            exact ⟨ret_bool HV.out, kA.step hK⟩
          · have E0 := Lib.hid e0
            have HE0 : Hid (inB z0 0 20 = true) := Lib.hid e0
            clear e0
            go_wp2_with fail
            refine (inRange_any _ _ _ _).mono ?_
            rintro e w5 ⟨rfl, rfl⟩
            rw [E0.out]
            go_wp2_with fail
            go_loopw [5] (fun i wr => ∃ p : Nat, p ≤ rn ∧ i = .int .i64 p ∧ Hid (anyB (sbadB mm X k) p = false) ∧ Keeps w0 wr) (fun i _ => rn - (intOf i).toNat)
            case atStart => exact ⟨0, by omega, rfl, Lib.hid rfl, hK⟩
            case round =>
              clear hK q0 q1 hcM
              obtain ⟨p, hp, rfl, HP, hK⟩ := hrel
              have q0 := cell_keeps hK HB0.out
              have hcA := cell_keeps hK HCA.out
              by_cases hltp : p < rn
              · have hpi : (p : Int) < rn := by omega
                obtain ⟨bR, oR, rfl, hcR0⟩ := HROW.out p hltp
                have HCR := Lib.hid hcR0
                have hcR := cell_keeps hK hcR0
                have HBAD : Hid (sbadB mm X k p = true → false = netB mm L X mm M) := Lib.hid (fun h => net_bad hlt (by rw [← HLV.out]; exact hltp) (by unfold ibadB; rw [h]; rfl))
                have HNX : Hid (sbadB mm X k p = false → anyB (sbadB mm X k) (p + 1) = false) := Lib.hid (fun h => by rw [anyB, HP.out, h]; rfl)
                have HDEF : Hid (sbadB mm X k p = (!inB (X k p) 0 ((mm : Int) - 1) || (X k p == (k : Int)) || anyB (fun q => X k p == X k q) p)) := Lib.hid rfl
                obtain ⟨z, hz⟩ : ∃ z, z = X k p := ⟨_, rfl⟩
                rw [← hz] at HDEF hcR HCR
                clear hz hcR0
                cases e1 : inB z 0 ((mm : Int) - 1)
                · have HV := Lib.hid (HBAD.out (by rw [HDEF.out, e1]; rfl))
                  have E1 := Lib.hid e1
                  clear e1
                  go_wp2_with fail
                  refine (inRange_any _ _ _ _).mono ?_
                  rintro e w5 ⟨rfl, rfl⟩
                  rw [E1.out]
                  go_wp2
                  go_ret
                  exact ⟨ret_bool HV.out, kA.step hK⟩
                · have E1 := Lib.hid e1
                  have HE1 : Hid (inB z 0 ((mm : Int) - 1) = true) := Lib.hid e1
                  clear e1
                  cases e2 : (z == (k : Int))
                  · have E2 := Lib.hid e2
                    go_wp2_with fail
                    refine (inRange_any _ _ _ _).mono ?_
                    rintro e w5 ⟨rfl, rfl⟩
                    rw [E1.out]
                    go_wp2_with fail
                    go_loopw [6] (fun i wr => ∃ q : Nat, q ≤ p ∧ i = .int .i64 q ∧ Hid (anyB (fun q => z == X k q) q = false) ∧ Keeps w0 wr) (fun i _ => p - (intOf i).toNat)
                    case atStart => exact ⟨0, by omega, rfl, Lib.hid rfl, hK⟩
                    case round =>
                      clear hK q0 hcA hcR
                      obtain ⟨q, hq, rfl, HQ, hK⟩ := hrel
                      have q0 := cell_keeps hK HB0.out
                      have hcA := cell_keeps hK HCA.out
                      have hcR := cell_keeps hK HCR.out
                      by_cases hltq : q < p
                      · have hqi : (q : Int) < p := by omega
                        have hqr : (q : Int) < rn := by omega
                        obtain ⟨_, _, eR, hcQ0⟩ := HROW.out q (by omega)
                        cases eR
                        have hcQ := cell_keeps hK hcQ0
                        have HQN : Hid (anyB (fun q => z == X k q) (q + 1) = (anyB (fun q => z == X k q) q || (z == X k q))) := Lib.hid rfl
                        have HQB : Hid ((z == X k q) = true → false = netB mm L X mm M) := Lib.hid (fun h => HBAD.out (by rw [HDEF.out, (anyB_iff (fun q => z == X k q) p).2 ⟨q, hltq, h⟩]; simp))
                        obtain ⟨y, hy⟩ : ∃ y, y = X k q := ⟨_, rfl⟩
                        rw [← hy] at hcQ HQN HQB
                        clear hy hcQ0
                        by_cases e3 : z = y
                        · have HV := Lib.hid (HQB.out (by simp [e3]))
                          have e3' : (y == z) = true := by simp [e3]
                          clear e3
                          go_wp2_with fail
                          go_quiet (fail)
                          go_wp2
                          go_ret
                          exact ⟨ret_bool HV.out, kA.step (hK.step (Keeps.drewN _ _))⟩
                        · have HV : Hid (anyB (fun q => z == X k q) (q + 1) = false) := Lib.hid (by rw [HQN.out, HQ.out]; simp [e3])
                          have e3' : (y == z) = false := by simp; exact fun h => e3 h.symm
                          clear e3
                          go_wp2_with fail
                          go_quiet (fail)
                          go_wp2
                          go_roundw
                          case rel => exact ⟨q + 1, by omega, by go_num, HV, hK.step (Keeps.drewN _ _)⟩
                          case measure => simp [intOf]; omega
                      · obtain rfl : q = p := by omega
                        have HV := Lib.hid (HNX.out (by rw [HDEF.out, HQ.out, HE1.out, E2.out]; rfl))
                        go_wp2
                        go_roundw
                        case rel => exact ⟨q + 1, by omega, by go_num, HV, hK⟩
                        case measure => simp [intOf]; omega
                  · have HV := Lib.hid (HBAD.out (by rw [HDEF.out, e2]; simp))
                    go_wp2_with fail
                    refine (inRange_any _ _ _ _).mono ?_
                    rintro e w5 ⟨rfl, rfl⟩
                    rw [E1.out]
                    go_wp2
                    go_ret
                    exact ⟨ret_bool HV.out, kA.step hK⟩
              · obtain rfl : p = rn := by omega
                have HV : Hid (anyB (vbadB mm L X M) (k + 1) = false) := Lib.hid (by rw [HANX.out, HA.out, HE0.out, ← HLV.out, HP.out]; rfl)
                go_wp2
                go_roundw
                case rel => exact ⟨k + 1, by omega, by go_num, HV, hK⟩
                case measure => simp [intOf]; omega
        · obtain rfl : k = mm := by omega
          obtain ⟨hmk, hsp⟩ := vbad_split HA.out
          obtain ⟨hpi, hport⟩ := net_node hsp
          have HPI := Lib.hid hpi
          have HPORT := Lib.hid hport
          clear hmk hsp hpi hport
          go_wp2_with fail
          go_loopw [7] (fun i wr => ∃ v : Nat, v ≤ k ∧ i = .int .i64 v ∧ Hid (anyB (fun v => anyB (bbadB L X v) (L v)) v = false) ∧ Keeps w0 wr) (fun i _ => k - (intOf i).toNat)
          case atStart => exact ⟨0, by omega, rfl, Lib.hid rfl, hK⟩
          case round =>
            clear hK q0 q1
            obtain ⟨v, hv, rfl, HAB, hK⟩ := hrel
            by_cases hlt2 : v < k
            · have hvi : (v : Int) < k := by omega
              obtain ⟨⟨bA, oA, rfl, hcA0⟩, _⟩ := HN.out.rows v hlt2
              have HCA := Lib.hid hcA0
              have hLv := HN.out.len v hlt2
              have hcap := HN.out.cap v hlt2
              have HANX := Lib.hid (show anyB (fun v => anyB (bbadB L X v) (L v)) (v + 1) = (anyB (fun v => anyB (bbadB L X v) (L v)) v || anyB (bbadB L X v) (L v)) from rfl)
              obtain ⟨ra, rn, rc, hrv⟩ : ∃ ra rn rc, r v = (ra, rn, rc) := ⟨_, _, _, rfl⟩
              rw [hrv] at HCA hLv hcap
              dsimp only at hLv hcap
              have HLV := Lib.hid hLv
              have hrn : rn ≤ 9223372036854775807 := by omega
              clear hLv hrv hcA0
              go_wp2_with fail
              go_loopw [8] (fun i wr => ∃ p : Nat, p ≤ rn ∧ i = .int .i64 p ∧ Hid (anyB (bbadB L X v) p = false) ∧ Keeps w0 wr) (fun i _ => rn - (intOf i).toNat)
              case atStart => exact ⟨0, by omega, rfl, Lib.hid rfl, hK⟩
              case round =>
                clear hK
                obtain ⟨p, hp, rfl, HP, hK⟩ := hrel
                have q0 := cell_keeps hK HB0.out
                have q1 := cell_keeps hK HB1.out
                have hcA := cell_keeps hK HCA.out
                by_cases hltp : p < rn
                · have hpi : (p : Int) < rn := by omega
                  have hpL : p < L v := by rw [← HLV.out]; exact hltp
                  have CB := Lib.hid (backPort_any (some ⟨bA, oA, none⟩) B k c k d r L X M v p wr (HN.out.keeps hK) hlt2 hpL (HPI.out v p hlt2 hpL) (HPORT.out v p hlt2 hpL))
                  have HIX := Lib.hid (net_idx (L := L) (X := X) (v := v) (p := p))
                  have HBAD : Hid (bbadB L X v p = true → false = netB k L X k M) := Lib.hid (fun h => net_bad hlt2 hpL (by unfold ibadB; rw [h]; simp))
                  have HNX : Hid (bbadB L X v p = false → anyB (bbadB L X v) (p + 1) = false) := Lib.hid (fun h => by rw [anyB, HP.out, h]; rfl)
                  generalize idxB (fun q => X (portT X v p) q == (v : Int)) (L (portT X v p)) = ix at *
                  clear hpL
                  go_wp2_with fail
                  refine CB.out.mono ?_
                  rintro e w5 ⟨rfl, hk5⟩
                  by_cases e1 : ix < 0
                  · have HV := Lib.hid (HBAD.out (by rw [← HIX.out]; simp [e1]))
                    go_wp2
                    go_ret
                    exact ⟨ret_bool HV.out, kA.step (hK.step hk5)⟩
                  · have HV := Lib.hid (HNX.out (by rw [← HIX.out]; simp [e1]))
                    go_wp2
                    go_roundw
                    case rel => exact ⟨p + 1, by omega, by go_num, HV, hK.step hk5⟩
                    case measure => simp [intOf]; omega
                · obtain rfl : p = rn := by omega
                  have HV : Hid (anyB (fun v => anyB (bbadB L X v) (L v)) (v + 1) = false) := Lib.hid (by rw [HANX.out, HAB.out, ← HLV.out, HP.out]; rfl)
                  go_wp2
                  go_roundw
                  case rel => exact ⟨v + 1, by omega, by go_num, HV, hK⟩
                  case measure => simp [intOf]; omega
            · obtain rfl : v = k := by omega
              have q0 := cell_keeps hK HB0.out
              have q1 := cell_keeps hK HB1.out
              have CF := Lib.hid (sfars_any A B v c v d r L (portT X) 0 wr (by omega) ((HN.out.keeps hK).ports HPORT.out) HN.out.len HN.out.lenb HPI.out (by omega))
              go_wp2_with fail
              refine CF.out.mono ?_
              rintro e w5 ⟨g, cg, rfl, hO, hk5⟩
              have HO := Lib.hid hO
              have K5 := (kA.step hK).step hk5
              clear hO hK hk5 q0 q1 kA
              go_wp2_with fail
              go_loop [10] (fun i => ∃ u : Nat, u ≤ v ∧ i = .int .i64 u ∧ Hid (anyB (fun x => decide (farF v L (portT X) 0 x < 0)) u = false)) (fun i => v - (intOf i).toNat)
              case atStart => exact ⟨0, by omega, rfl, Lib.hid rfl⟩
              case round =>
                obtain ⟨u, hu, rfl, HU⟩ := hrel
                by_cases hltu : u < v
                · have hui : (u : Int) < v := by omega
                  have hcu := HO.out.cell u hltu
                  rw [il_getD _ _ _ hltu] at hcu
                  have HBF : Hid (farF v L (portT X) 0 u < 0 → false = netB v L X v M) := Lib.hid (fun h => net_badF hltu h)
                  have HUN : Hid (anyB (fun x => decide (farF v L (portT X) 0 x < 0)) (u + 1) = (anyB (fun x => decide (farF v L (portT X) 0 x < 0)) u || decide (farF v L (portT X) 0 u < 0))) := Lib.hid rfl
                  generalize farF v L (portT X) 0 u = fu at *
                  by_cases e1 : fu < 0
                  · have HV := Lib.hid (HBF.out e1)
                    go_wp2
                    go_ret
                    exact ⟨ret_bool HV.out, K5⟩
                  · have HV : Hid (anyB (fun x => decide (farF v L (portT X) 0 x < 0)) (u + 1) = false) := Lib.hid (by rw [HUN.out, HU.out]; simp [e1])
                    go_wp2
                    go_round
                    case rel => exact ⟨u + 1, by omega, by go_num, HV⟩
                    case measure => simp [intOf]; omega
                · obtain rfl : u = v := by omega
                  have HV := Lib.hid (net_fin2 V1.out HA.out HAB.out HU.out)
                  go_wp2
                  go_ret
                  exact ⟨ret_bool HV.out, K5⟩
    · have hne : ((mm : Int) != (m : Int)) = true := by simp; omega
      have HV := Lib.hid (netB_not m L X mm M (fun h => hmm (net_true h).mm))
      clear hmm
      go_wp2_with fail
      refine (inRange_any _ _ _ _).mono ?_
      rintro e w1 ⟨rfl, rfl⟩
      rw [V1.out]
      go_wp2
      go_ret
      exact ⟨ret_bool HV.out, kA⟩
set_option maxHeartbeats 400000 in
theorem sValidNet_any (A B : Option Addr) (m c mm d : Nat) (r : Nat → Option Addr × Nat × Nat) (L : Nat → Nat) (X : Nat → Nat → Int) (M : Nat → Int) (w : World) (hN : NetAt w A m r B mm L X M) :
    Calls Try.prog 23 #[.agg #[.slice A m c, .slice B mm d]] w fun e w' => e = .returned (.bool (netB m L X mm M)) ∧ Keeps w w' := by
  have kA := Keeps.alloc w (.cells #[.slice A m c, .slice B mm d] 27)
  have CC := Lib.hid (svalidNet_any A B m c mm d r L X M _ (hN.keeps kA))
  clear hN
  go_enter Try.func23, Try.ntmps23
  go_wp2_with fail
  refine CC.out.mono ?_
  rintro e w5 ⟨rfl, hk5⟩
  go_wp2
  go_ret
  exact ⟨rfl, kA.step hk5⟩
/-- Is the net valid, and the number one of its nodes? -/
def nodeB (m : Nat) (L : Nat → Nat) (X : Nat → Nat → Int) (mm : Nat) (M : Nat → Int) (s : Int) : Bool := netB m L X mm M && inB s 0 ((m : Int) - 1)
set_option maxHeartbeats 1000000 in
theorem nodeIn_any (A B : Option Addr) (m c mm d : Nat) (r : Nat → Option Addr × Nat × Nat) (L : Nat → Nat) (X : Nat → Nat → Int) (M : Nat → Int) (s : Int) (w : World) (hN : NetAt w A m r B mm L X M) :
    Calls Try.prog 58 #[.agg #[.slice A m c, .slice B mm d], .int .i64 s] w fun e w' => e = .returned (.bool (nodeB m L X mm M s)) ∧ Keeps w w' := by
  have kA := Keeps.alloc w (.cells #[.slice A m c, .slice B mm d] 27)
  have hB := Blk.new w #[.slice A m c, .slice B mm d] 27
  have CC := Lib.hid (validNet_any A B m c mm d r L X M _ (hN.keeps kA))
  have hmb := hN.mb
  have HV := Lib.hid (show nodeB m L X mm M s = (netB m L X mm M && inB s 0 ((m : Int) - 1)) from rfl)
  clear hN
  have b0 : (w.alloc (.cells #[.slice A m c, .slice B mm d] 27)).cell? ⟨w.heap.size, 0, none⟩ = some (.slice A m c) := hB.cell 0
  have HB0 := Lib.hid b0
  clear hB b0
  generalize netB m L X mm M = nb at *
  go_enter Try.func58, Try.ntmps58
  go_wp2_with fail
  refine CC.out.mono ?_
  rintro e w5 ⟨rfl, hk5⟩
  have q0 := cell_keeps hk5 HB0.out
  cases nb
  · have HV2 : Hid (false = nodeB m L X mm M s) := Lib.hid (by rw [HV.out]; rfl)
    go_wp2
    go_ret
    exact ⟨ret_bool HV2.out, kA.step hk5⟩
  · have HV2 : Hid (inB s 0 ((m : Int) - 1) = nodeB m L X mm M s) := Lib.hid (by rw [HV.out]; simp)
    go_wp2_with fail
    refine (within_any _ _ _ _).mono ?_
    rintro e w6 ⟨rfl, rfl⟩
    go_wp2
    go_ret
    exact ⟨ret_bool HV2.out, kA.step hk5⟩
end Go.Proofs.Ytdjilgbcpdlkfaa
