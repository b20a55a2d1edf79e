/-
  Valid nets: what ValidNet answers, plain, and how a net lies in memory. No condition.
-/
import Derived.Test.YtdjilgbcpdlkfaaFars
namespace Go.Proofs.Ytdjilgbcpdlkfaa
open Go.RowKit

/-- A net in memory: m rows of ports, row v of L v ports X v, and mm marks M. -/
structure NetAt (w : World) (A : Option Addr) (m : Nat) (r : Nat → Option Addr × Nat × Nat) (B : Option Addr) (mm : Nat) (L : Nat → Nat) (X : Nat → Nat → Int) (M : Nat → Int) : Prop where
  rows : Rows w A m r X
  len : ∀ v, v < m → (r v).2.1 = L v
  cap : ∀ v, v < m → (r v).2.1 ≤ (r v).2.2 ∧ (r v).2.2 ≤ 9223372036854775807
  marks : Ints w B mm M
  mb : m ≤ 9223372036854775807
  mmb : mm ≤ 9223372036854775807
theorem NetAt.keeps {w w' : World} {A : Option Addr} {m : Nat} {r : Nat → Option Addr × Nat × Nat} {B : Option Addr} {mm : Nat} {L : Nat → Nat} {X : Nat → Nat → Int} {M : Nat → Int} (h : NetAt w A m r B mm L X M) (k : Keeps w w') : NetAt w' A m r B mm L X M :=
  ⟨h.rows.keeps k, h.len, h.cap, h.marks.keeps k, h.mb, h.mmb⟩
theorem NetAt.lenb {w : World} {A : Option Addr} {m : Nat} {r : Nat → Option Addr × Nat × Nat} {B : Option Addr} {mm : Nat} {L : Nat → Nat} {X : Nat → Nat → Int} {M : Nat → Int} (h : NetAt w A m r B mm L X M) (v : Nat) (hv : v < m) : L v ≤ 9223372036854775807 := by
  have := h.len v hv
  have := h.cap v hv
  omega
def portT (X : Nat → Nat → Int) : Nat → Nat → Nat := fun v p => (X v p).toNat
def sbadB (m : Nat) (X : Nat → Nat → Int) (v p : Nat) : Bool := !inB (X v p) 0 ((m : Int) - 1) || (X v p == (v : Int)) || anyB (fun q => X v p == X v q) p
def bbadB (L : Nat → Nat) (X : Nat → Nat → Int) (v p : Nat) : Bool := !anyB (fun q => (v : Int) == X (portT X v p) q) (L (portT X v p))
/-- Is the net valid? -/
def netB (m : Nat) (L : Nat → Nat) (X : Nat → Nat → Int) (mm : Nat) (M : Nat → Int) : Bool :=
  inB m 1 6 && decide (mm = m) && !anyB (fun v => !inB (M v) 0 20) m && !anyB (fun v => anyB (sbadB m X v) (L v)) m && !anyB (fun v => anyB (bbadB L X v) (L v)) m && !anyB (fun v => decide (farF m L (portT X) 0 v < 0)) m
structure NetOk (m : Nat) (L : Nat → Nat) (X : Nat → Nat → Int) (mm : Nat) (M : Nat → Int) : Prop where
  lo : 1 ≤ m
  hi : m ≤ 6
  mm : mm = m
  marks : ∀ v, v < m → 0 ≤ M v ∧ M v ≤ 20
  port : ∀ v p, v < m → p < L v → X v p = (portT X v p : Nat)
  node : PortsIn m L (portT X)
  other : ∀ v p, v < m → p < L v → portT X v p ≠ v
  once : ∀ v p q, v < m → p < L v → q < p → portT X v p ≠ portT X v q
  back : ∀ v p, v < m → p < L v → Adj L (portT X) (portT X v p) v
  reach : ∀ v, v < m → 0 ≤ farF m L (portT X) 0 v
theorem net_ports {m : Nat} {L : Nat → Nat} {X : Nat → Nat → Int} (h : anyB (fun v => anyB (sbadB m X v) (L v)) m = false) : ∀ v p, v < m → p < L v → (0 ≤ X v p ∧ X v p ≤ (m : Int) - 1) ∧ X v p ≠ v ∧ ∀ q, q < p → X v p ≠ X v q := fun v p hv hp => by
  have h1 := (anyB_false _ _).1 ((anyB_false _ _).1 h v hv) p hp
  unfold sbadB at h1
  simp only [Bool.or_eq_false_iff, Bool.not_eq_false'] at h1
  obtain ⟨⟨h2, h3⟩, h4⟩ := h1
  refine ⟨inB_true h2, by simpa using h3, fun q hq => ?_⟩
  have := (anyB_false _ _).1 h4 q hq
  simpa using this
theorem net_true {m : Nat} {L : Nat → Nat} {X : Nat → Nat → Int} {mm : Nat} {M : Nat → Int} (h : netB m L X mm M = true) : NetOk m L X mm M := by
  unfold netB at h
  simp only [Bool.and_eq_true, Bool.not_eq_true'] at h
  obtain ⟨⟨⟨⟨⟨h1, h2⟩, h3⟩, h4⟩, h5⟩, h6⟩ := h
  have g1 := inB_true h1
  have g4 := net_ports h4
  have port : ∀ v p, v < m → p < L v → X v p = (portT X v p : Nat) := fun v p hv hp => by
    have := (g4 v p hv hp).1
    unfold portT
    omega
  refine ⟨by omega, by omega, of_decide_eq_true h2, fun v hv => ?_, port, fun v p hv hp => ?_, fun v p hv hp e => ?_, fun v p q hv hp hq e => ?_, fun v p hv hp => ?_, fun v hv => ?_⟩
  · have := (anyB_false _ _).1 h3 v hv
    exact inB_true (by simpa using this)
  · have := (g4 v p hv hp).1
    unfold portT
    omega
  · exact (g4 v p hv hp).2.1 (by rw [port v p hv hp, e])
  · exact (g4 v p hv hp).2.2 q hq (by rw [port v p hv hp, port v q hv (by omega), e])
  · have h7 := (anyB_false _ _).1 ((anyB_false _ _).1 h5 v hv) p hp
    unfold bbadB at h7
    rw [Bool.not_eq_false', anyB_iff] at h7
    obtain ⟨q, hq, e⟩ := h7
    have hu : portT X v p < m := by
      have := (g4 v p hv hp).1
      unfold portT
      omega
    refine ⟨q, hq, ?_⟩
    have e' : (v : Int) = X (portT X v p) q := by simpa using e
    have := port (portT X v p) q hu hq
    omega
  · have := (anyB_false _ _).1 h6 v hv
    simpa using this
theorem Rows.on {w : World} {A : Option Addr} {m : Nat} {r : Nat → Option Addr × Nat × Nat} {X Y : Nat → Nat → Int} (h : Rows w A m r X) (e : ∀ v p, v < m → p < (r v).2.1 → X v p = Y v p) : Rows w A m r Y := fun v hv => by
  obtain ⟨h1, h2⟩ := h v hv
  refine ⟨h1, fun p hp => ?_⟩
  obtain ⟨b, off, e1, hc⟩ := h2 p hp
  exact ⟨b, off, e1, by rw [hc, e v p hv hp]⟩
theorem NetAt.ports {w : World} {A : Option Addr} {m : Nat} {r : Nat → Option Addr × Nat × Nat} {B : Option Addr} {mm : Nat} {L : Nat → Nat} {X : Nat → Nat → Int} {M : Nat → Int} (h : NetAt w A m r B mm L X M) (e : ∀ v p, v < m → p < L v → X v p = (portT X v p : Nat)) : Rows w A m r (fun v p => (portT X v p : Nat)) :=
  h.rows.on (fun v p hv hp => e v p hv (by rw [← h.len v hv]; exact hp))
theorem net_idx {L : Nat → Nat} {X : Nat → Nat → Int} {v p : Nat} : decide (idxB (fun q => X (portT X v p) q == (v : Int)) (L (portT X v p)) < 0) = bbadB L X v p := by
  have h := idxB_ge (fun q => X (portT X v p) q == (v : Int)) (L (portT X v p))
  unfold bbadB
  rw [show (fun q => (v : Int) == X (portT X v p) q) = fun q => X (portT X v p) q == (v : Int) from funext fun q => by rw [Bool.eq_iff_iff, beq_iff_eq, beq_iff_eq]; exact eq_comm, ← h]
  generalize idxB (fun q => X (portT X v p) q == (v : Int)) (L (portT X v p)) = i
  by_cases h' : 0 ≤ i
  · rw [decide_eq_true h', decide_eq_false (by omega)]; rfl
  · rw [decide_eq_false h', decide_eq_true (show i < 0 by omega)]; rfl
theorem far_any (m : Nat) (L : Nat → Nat) (T : Nat → Nat → Nat) : anyB (fun q => (-1 : Int) == farF m L T 0 q) m = anyB (fun v => decide (farF m L T 0 v < 0)) m := by
  have h := far_dist m L T 0
  rw [Bool.eq_iff_iff, anyB_iff, anyB_iff]
  constructor
  · rintro ⟨i, hi, e⟩
    have : (-1 : Int) = farF m L T 0 i := by simpa using e
    exact ⟨i, hi, by simp; omega⟩
  · rintro ⟨i, hi, e⟩
    have := h.low i hi
    have e' : farF m L T 0 i < 0 := by simpa using e
    exact ⟨i, hi, by simp; omega⟩
set_option maxHeartbeats 400000 in
theorem mo1_any (k : Int) (w : World) : Calls Try.prog 72 #[.int .i64 k] w fun e w' => e = .returned (.bool (!inB k 0 20)) ∧ Keeps w w' := by
  go_enter Try.func72, Try.ntmps72
  go_wp2_with fail
  refine (within_any _ _ _ _).mono ?_
  rintro e w1 ⟨rfl, rfl⟩
  go_wp2
  go_ret
  exact ⟨rfl, Keeps.refl _⟩
set_option maxRecDepth 100000 in
set_option maxHeartbeats 400000 in
theorem marksOk_any (B : Option Addr) (n c : Nat) (M : Nat → Int) (w : World) (hn : n ≤ 1099511627776) (hI : Ints w B n M) :
    Calls Try.prog 48 #[.slice B n c] w fun e w' => e = .returned (.bool (!anyB (fun v => !inB (M v) 0 20) n)) ∧ Keeps w w' := by
  have CC := Lib.hid (intcontains_any 72 #[] B n c M (fun j => !inB (M j) 0 20) w hn hI (fun _ _ => rfl) (fun k w' _ _ => by simpa using mo1_any (M k) w'))
  clear hI
  go_enter Try.func48, Try.ntmps48
  go_wp2_with fail
  refine CC.out.mono ?_
  rintro e w1 ⟨rfl, hk1⟩
  go_wp2
  go_ret
  exact ⟨rfl, hk1⟩
theorem netB_not (m : Nat) (L : Nat → Nat) (X : Nat → Nat → Int) (mm : Nat) (M : Nat → Int) (h : netB m L X mm M = true → False) : false = netB m L X mm M := by
  cases e : netB m L X mm M
  · rfl
  · exact (h e).elim
def ibadB (m : Nat) (L : Nat → Nat) (X : Nat → Nat → Int) (v p : Nat) : Bool := sbadB m X v p || bbadB L X v p
theorem net_bad {m : Nat} {L : Nat → Nat} {X : Nat → Nat → Int} {mm : Nat} {M : Nat → Int} {v p : Nat} (hv : v < m) (hp : p < L v) (h : ibadB m L X v p = true) : false = netB m L X mm M := by
  refine netB_not m L X mm M fun e => ?_
  unfold netB at e
  simp only [Bool.and_eq_true, Bool.not_eq_true'] at e
  obtain ⟨⟨⟨_, h4⟩, h5⟩, _⟩ := e
  have e4 := (anyB_false _ _).1 ((anyB_false _ _).1 h4 v hv) p hp
  have e5 := (anyB_false _ _).1 ((anyB_false _ _).1 h5 v hv) p hp
  unfold ibadB at h
  rw [e4, e5] at h
  cases h
theorem ibad_split {m : Nat} {L : Nat → Nat} {X : Nat → Nat → Int} (h : anyB (fun v => anyB (ibadB m L X v) (L v)) m = false) : anyB (fun v => anyB (sbadB m X v) (L v)) m = false ∧ anyB (fun v => anyB (bbadB L X v) (L v)) m = false := by
  have key : ∀ v, v < m → ∀ p, p < L v → sbadB m X v p = false ∧ bbadB L X v p = false := fun v hv p hp => by
    have := (anyB_false _ _).1 ((anyB_false _ _).1 h v hv) p hp
    unfold ibadB at this
    simpa using this
  exact ⟨(anyB_false _ _).2 fun v hv => (anyB_false _ _).2 fun p hp => (key v hv p hp).1, (anyB_false _ _).2 fun v hv => (anyB_false _ _).2 fun p hp => (key v hv p hp).2⟩
theorem net_fin {m : Nat} {L : Nat → Nat} {X : Nat → Nat → Int} {M : Nat → Int} (h1 : inB m 1 6 = true) (h3 : anyB (fun v => !inB (M v) 0 20) m = false) (h : anyB (fun v => anyB (ibadB m L X v) (L v)) m = false) : (!anyB (fun q => (-1 : Int) == farF m L (portT X) 0 q) m) = netB m L X m M := by
  obtain ⟨h4, h5⟩ := ibad_split h
  unfold netB
  rw [h1, h3, h4, h5, far_any]
  simp
theorem net_node {m : Nat} {L : Nat → Nat} {X : Nat → Nat → Int} (h : anyB (fun v => anyB (sbadB m X v) (L v)) m = false) : PortsIn m L (portT X) ∧ ∀ v p, v < m → p < L v → X v p = (portT X v p : Nat) :=
  ⟨fun v p hv hp => by have := (net_ports h v p hv hp).1; unfold portT; omega, fun v p hv hp => by have := (net_ports h v p hv hp).1; unfold portT; omega⟩
theorem il_ints {w : World} {lo n c : Nat} {A : Option Addr} {x : Nat → Int} (h : OwnInts w lo A n c (il n x)) : Ints w A n x := fun i hi => by
  obtain ⟨b, off, e, hc⟩ := h.ints i hi
  exact ⟨b, off, e, by dsimp only at hc; rw [il_getD _ _ _ hi] at hc; exact hc⟩
set_option maxRecDepth 100000 in
set_option maxHeartbeats 4000000 in
theorem validNet_any (A B : Option Addr) (m c mm d : Nat) (r : Nat → Option Addr × Nat × Nat) (L : Nat → Nat) (X : Nat → Nat → Int) (M : Nat → Int) (w : World) (hN : NetAt w A m r B mm L X M) :
    Calls Try.prog 16 #[.agg #[.slice A m c, .slice B mm d]] w fun e w' => e = .returned (.bool (netB m L X mm M)) ∧ Keeps w w' := by
  have kA := Keeps.alloc w (.cells #[.slice A m c, .slice B mm d] 27)
  have hB := Blk.new w #[.slice A m c, .slice B mm d] 27
  have b0 : (w.alloc (.cells #[.slice A m c, .slice B mm d] 27)).cell? ⟨w.heap.size, 0, none⟩ = some (.slice A m c) := hB.cell 0
  have b1 : (w.alloc (.cells #[.slice A m c, .slice B mm d] 27)).cell? ⟨w.heap.size, 1, none⟩ = some (.slice B mm d) := hB.cell 1
  have hmb := hN.mb
  have hmmb := hN.mmb
  have HN := Lib.hid (hN.keeps kA)
  clear hN hB
  go_enter Try.func16, Try.ntmps16
  go_upto_region 1 with fail
  generalize hw0 : w.alloc (.cells #[.slice A m c, .slice B mm d] 27) = w0 at *
  generalize hbx : w.heap.size = bx at *
  have HB0 := Lib.hid b0
  have HB1 := Lib.hid b1
  clear hw0
  cases v1 : inB m 1 6
  · have HV := Lib.hid (netB_not m L X mm M (fun h => by have := net_true h; have h2 := inB_false v1; have h3 := this.lo; have h4 := this.hi; omega))
    have V1 := Lib.hid v1
    clear v1
    go_wp2_with fail
    refine (within_any _ _ _ _).mono ?_
    rintro e w1 ⟨rfl, rfl⟩
    rw [V1.out]
    go_wp2
    go_ret
    exact ⟨ret_bool HV.out, kA⟩
  · have h16 := inB_true v1
    have V1 := Lib.hid v1
    clear v1
    by_cases hmm : mm = m
    · subst hmm
      have hne : ((mm : Int) != (mm : Int)) = false := by simp
      have CMO := Lib.hid (marksOk_any B mm d M w0 (by omega) HN.out.marks)
      cases v2 : anyB (fun v => !inB (M v) 0 20) mm
      · have V2 := Lib.hid v2
        clear v2
        go_wp2_with fail
        refine (within_any _ _ _ _).mono ?_
        rintro e w1 ⟨rfl, rfl⟩
        rw [V1.out]
        go_wp2_with fail
        refine CMO.out.mono ?_
        rintro e w1 ⟨rfl, hk1⟩
        rw [V2.out]
        have HN1 := Lib.hid (HN.out.keeps hk1)
        have HB01 := Lib.hid (cell_keeps hk1 HB0.out)
        have K1 := kA.step hk1
        have q0 := HB01.out
        clear b0 b1 HB0 HB1 HN kA hk1
        go_wp2_with fail
        obtain ⟨wd, rfl⟩ : ∃ wd : World, wd = w1 := ⟨_, rfl⟩
        go_loopw [30] (fun i wr => ∃ k : Nat, k ≤ mm ∧ i = .int .i64 k ∧ Hid (anyB (fun v => anyB (ibadB mm L X v) (L v)) k = false) ∧ Keeps wd wr) (fun i _ => mm - (intOf i).toNat)
        case atStart => exact ⟨0, by omega, rfl, Lib.hid rfl, Keeps.refl _⟩
        case round =>
          obtain ⟨k, hk, rfl, HA, hK⟩ := hrel
          by_cases hlt : k < mm
          · have hki : (k : Int) < mm := by omega
            obtain ⟨⟨bA, oA, rfl, hcA0⟩, _⟩ := HN1.out.rows k hlt
            have HCA := Lib.hid hcA0
            have hcA := cell_keeps hK hcA0
            have HROW := Lib.hid ((HN1.out.rows k hlt).2)
            have hLv := HN1.out.len k hlt
            have hcap := HN1.out.cap k hlt
            have HANX := Lib.hid (show anyB (fun v => anyB (ibadB mm L X v) (L v)) (k + 1) = (anyB (fun v => anyB (ibadB mm L X v) (L v)) k || anyB (ibadB mm L X k) (L k)) from rfl)
            obtain ⟨ra, rn, rc, hrv⟩ : ∃ ra rn rc, r k = (ra, rn, rc) := ⟨_, _, _, rfl⟩
            rw [hrv] at hcA HROW hLv hcap
            dsimp only at hLv hcA hcap
            have HLV := Lib.hid hLv
            have hrn : rn ≤ 9223372036854775807 := by omega
            clear hLv hrv hcA0 q0
            go_wp2_with fail
            go_loopw [37] (fun i wr => ∃ p : Nat, p ≤ rn ∧ i = .int .i64 p ∧ Hid (anyB (ibadB mm L X k) p = false) ∧ Keeps wd wr) (fun i _ => rn - (intOf i).toNat)
            case atStart => exact ⟨0, by omega, rfl, Lib.hid rfl, hK⟩
            case round =>
              clear hK hcA
              obtain ⟨p, hp, rfl, HP, hK⟩ := hrel
              by_cases hltp : p < rn
              · have hpi : (p : Int) < rn := by omega
                obtain ⟨bR, oR, rfl, hcR⟩ := HROW.out.keeps hK p hltp
                have HBAD : Hid (ibadB mm L X k p = true → false = netB mm L X mm M) := Lib.hid (fun h => net_bad hlt (by rw [← HLV.out]; exact hltp) h)
                have HNX : Hid (ibadB mm L X k p = false → anyB (ibadB mm L X k) (p + 1) = false) := Lib.hid (fun h => by rw [anyB, HP.out, h]; rfl)
                have HDEF : Hid (ibadB mm L X k p = (!inB (X k p) 0 ((mm : Int) - 1) || (X k p == (k : Int)) || anyB (fun q => X k p == X k q) p || !anyB (fun q => (k : Int) == X (portT X k p) q) (L (portT X k p)))) := Lib.hid rfl
                have HPT : Hid (0 ≤ X k p → X k p ≤ (mm : Int) - 1 → portT X k p < mm ∧ ((portT X k p : Nat) : Int) = X k p) := Lib.hid (fun h1 h2 => by unfold portT; omega)
                have CC3 := Lib.hid (slContains_any (some ⟨bR, oR, none⟩) p rc (X k) (X k p) wr (by omega) (fun q hq => (HROW.out.keeps hK) q (by omega)))
                obtain ⟨u, hu⟩ : ∃ u, u = portT X k p := ⟨_, rfl⟩
                obtain ⟨z, hz⟩ : ∃ z, z = X k p := ⟨_, rfl⟩
                rw [← hu] at HDEF HPT
                rw [← hz] at HDEF HPT CC3 hcR
                clear hu hz
                have q0 := cell_keeps hK HB01.out
                cases e1 : inB z 0 ((mm : Int) - 1)
                · have HV := Lib.hid (HBAD.out (by rw [HDEF.out, e1]; rfl))
                  have E1 := Lib.hid e1
                  clear e1
                  go_wp2_with fail
                  refine (within_any _ _ _ _).mono ?_
                  rintro e w5 ⟨rfl, rfl⟩
                  rw [E1.out]
                  go_wp2
                  go_ret
                  exact ⟨ret_bool HV.out, K1.step hK⟩
                · have hz01 := inB_true e1
                  have E1 := Lib.hid e1
                  have HE1 : Hid (inB z 0 ((mm : Int) - 1) = true) := Lib.hid e1
                  clear e1
                  cases e2 : (z == (k : Int))
                  · have E2 := Lib.hid e2
                    cases e3 : anyB (fun q => z == X k q) p
                    · have E3 := Lib.hid e3
                      clear e3
                      obtain ⟨hum, huz⟩ := HPT.out hz01.1 hz01.2
                      subst huz
                      obtain ⟨⟨_, _, eA, hcU0⟩, hrowU⟩ := HN1.out.rows u hum
                      cases eA
                      have hcU := cell_keeps hK hcU0
                      have CC4 := Lib.hid (slContains_any (r u).1 (r u).2.1 (r u).2.2 (X u) (k : Int) wr (by have := HN1.out.cap u hum; omega) (hrowU.keeps hK))
                      have HLU := Lib.hid (HN1.out.len u hum)
                      rw [HLU.out] at CC4 hcU
                      have hui : (u : Int) < mm := by omega
                      clear hcU0 hrowU
                      go_wp2_with fail
                      refine (within_any _ _ _ _).mono ?_
                      rintro e w5 ⟨rfl, rfl⟩
                      rw [E1.out]
                      go_wp2_with fail
                      refine CC3.out.mono ?_
                      rintro e w5 ⟨rfl, rfl⟩
                      rw [E3.out]
                      go_wp2_with fail
                      refine CC4.out.mono ?_
                      rintro e w5 ⟨rfl, rfl⟩
                      cases e4 : anyB (fun q => (k : Int) == X u q) (L u)
                      · have HV := Lib.hid (HBAD.out (by rw [HDEF.out, e4]; simp))
                        clear e4
                        go_wp2
                        go_ret
                        exact ⟨ret_bool HV.out, K1.step hK⟩
                      · have HV := Lib.hid (HNX.out (by rw [HDEF.out, e4, HE1.out, E2.out, E3.out]; rfl))
                        clear e4
                        go_wp2
                        go_roundw
                        case rel => exact ⟨p + 1, by omega, by go_num, HV, hK⟩
                        case measure => simp [intOf]; omega
                    · have HV := Lib.hid (HBAD.out (by rw [HDEF.out, e3]; simp))
                      have E3 := Lib.hid e3
                      clear e3
                      go_wp2_with fail
                      refine (within_any _ _ _ _).mono ?_
                      rintro e w5 ⟨rfl, rfl⟩
                      rw [E1.out]
                      go_wp2_with fail
                      refine CC3.out.mono ?_
                      rintro e w5 ⟨rfl, rfl⟩
                      rw [E3.out]
                      go_wp2
                      go_ret
                      exact ⟨ret_bool HV.out, K1.step hK⟩
                  · have HV := Lib.hid (HBAD.out (by rw [HDEF.out, e2]; simp))
                    go_wp2_with fail
                    refine (within_any _ _ _ _).mono ?_
                    rintro e w5 ⟨rfl, rfl⟩
                    rw [E1.out]
                    go_wp2
                    go_ret
                    exact ⟨ret_bool HV.out, K1.step hK⟩
              · obtain rfl : p = rn := by omega
                have HV : Hid (anyB (fun v => anyB (ibadB mm L X v) (L v)) (k + 1) = false) := Lib.hid (by rw [HANX.out, HA.out, ← HLV.out, HP.out]; rfl)
                go_wp2
                go_roundw
                case rel => exact ⟨k + 1, by omega, by go_num, HV, hK⟩
                case measure => simp [intOf]; omega
          · obtain rfl : k = mm := by omega
            have HF := Lib.hid (net_fin V1.out V2.out HA.out)
            obtain ⟨hsp, _⟩ := ibad_split HA.out
            obtain ⟨hpi, hport⟩ := net_node hsp
            have hN2 := HN1.out.keeps hK
            have CF := Lib.hid (ifars_any A k c r L (portT X) 0 wr (by omega) (by omega) (hN2.ports hport) hN2.len hN2.lenb hpi (by omega))
            have q1 := cell_keeps hK q0
            clear hsp hpi hport hN2 q0
            go_wp2_with fail
            refine CF.out.mono ?_
            rintro e w5 ⟨g, cg, rfl, hO, hk5⟩
            have CC := Lib.hid (slContains_any (some ⟨g, 0, none⟩) k cg (farF k L (portT X) 0) (-1) w5 (by omega) (il_ints hO))
            clear hO
            go_wp2_with fail
            refine CC.out.mono ?_
            rintro e w6 ⟨rfl, rfl⟩
            go_wp2
            go_ret
            exact ⟨ret_bool HF.out, (K1.step hK).step hk5⟩
      · have HV := Lib.hid (netB_not mm L X mm M (fun h => by
          have := (net_true h).marks
          obtain ⟨i, hi, e⟩ := (anyB_iff _ _).1 v2
          rw [inB_mk (this i hi).1 (this i hi).2] at e
          cases e))
        have V2 := Lib.hid v2
        clear v2
        go_wp2_with fail
        refine (within_any _ _ _ _).mono ?_
        rintro e w1 ⟨rfl, rfl⟩
        rw [V1.out]
        go_wp2_with fail
        refine CMO.out.mono ?_
        rintro e w1 ⟨rfl, hk1⟩
        rw [V2.out]
        go_wp2
        go_ret
        exact ⟨ret_bool HV.out, kA.step hk1⟩
    · have hne : ((mm : Int) != (m : Int)) = true := by simp; omega
      have HV := Lib.hid (netB_not m L X mm M (fun h => hmm (net_true h).mm))
      clear hmm
      go_wp2_with fail
      refine (within_any _ _ _ _).mono ?_
      rintro e w1 ⟨rfl, rfl⟩
      rw [V1.out]
      go_wp2
      go_ret
      exact ⟨ret_bool HV.out, kA⟩
end Go.Proofs.Ytdjilgbcpdlkfaa
