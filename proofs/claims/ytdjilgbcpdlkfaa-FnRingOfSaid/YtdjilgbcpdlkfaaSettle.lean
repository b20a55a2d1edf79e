/-
  The contracts of SettledAt and IsElectable, of the program and of the reference: both answer the same. No condition.
-/
import Derived.Test.YtdjilgbcpdlkfaaSCls
namespace Go.Proofs.Ytdjilgbcpdlkfaa
open Go.RowKit

/-- After how many rounds nothing changes; -1 if the net is not valid. -/
def settleI (m : Nat) (L : Nat → Nat) (X : Nat → Nat → Int) (mm : Nat) (M : Nat → Int) : Int := if netB m L X mm M then (settleF L (portT X) M m : Nat) else -1
/-- Do all nodes look different at the end? -/
def electB (m : Nat) (L : Nat → Nat) (X : Nat → Nat → Int) (mm : Nat) (M : Nat → Int) : Bool := netB m L X mm M && !anyB (fun v => !(clsF L (portT X) M 6 v == v)) m
theorem kinds_all (k : Nat → Nat) (m : Nat) : (kindsN k m == m) = !anyB (fun v => !(k v == v)) m := by
  rw [Bool.eq_iff_iff, beq_iff_eq, Bool.not_eq_true', anyB_false]
  unfold kindsN
  constructor
  · intro h i hi
    have := cntB_same (fun v => k v == v) (fun _ => true) m (fun _ _ _ => rfl) (by
      rw [h]
      have : ∀ n, cntB (fun _ => true) n = n := fun n => by
        induction n with
        | zero => rfl
        | succ n ih => unfold cntB; rw [ih]; rfl
      exact (this m).symm) i hi rfl
    simpa using this
  · intro h
    have : ∀ n, n ≤ m → cntB (fun v => k v == v) n = n := fun n => by
      induction n with
      | zero => intro _; rfl
      | succ n ih =>
        intro hn
        have e := h n (by omega)
        rw [Bool.not_eq_false'] at e
        unfold cntB
        rw [ih (by omega), if_pos e]
    exact this m (Nat.le_refl _)
theorem il_eq_iff {n : Nat} {x y : Nat → Int} : (∀ i, i < n → x i = y i) ↔ anyB (fun i => x i != y i) n = false := by
  rw [anyB_false]
  simp
section
variable {A B C : Option Addr} {m c mm d cc : Nat} {r : Nat → Option Addr × Nat × Nat} {L : Nat → Nat} {X : Nat → Nat → Int} {M : Nat → Int} {k : Nat → Nat}
set_option maxRecDepth 100000 in
set_option maxHeartbeats 8000000 in
theorem iSettledAt_any (A B : Option Addr) (m c mm d : Nat) (r : Nat → Option Addr × Nat × Nat) (L : Nat → Nat) (X : Nat → Nat → Int) (M : Nat → Int) (w : World) (hN : NetAt w A m r B mm L X M) :
    Calls Try.prog 41 #[.agg #[.slice A m c, .slice B mm d]] w fun e w' => e = .returned (.int .i64 (settleI m L X mm M)) ∧ Keeps w w' := by
  have kA := Keeps.alloc w (.cells #[.slice A m c, .slice B mm d] 27)
  have hB := Blk.new w #[.slice A m c, .slice B mm d] 27
  have d0 : (w.alloc (.cells #[.slice A m c, .slice B mm d] 27)).cell? ⟨w.heap.size, 0, none⟩ = some (.slice A m c) := hB.cell 0
  have d1 : (w.alloc (.cells #[.slice A m c, .slice B mm d] 27)).cell? ⟨w.heap.size, 1, none⟩ = some (.slice B mm d) := hB.cell 1
  have CC := Lib.hid (validNet_any A B m c mm d r L X M _ (hN.keeps kA))
  have HN := Lib.hid (hN.keeps kA)
  clear hN hB
  cases v1 : netB m L X mm M
  · have HV : Hid (-1 = settleI m L X mm M) := Lib.hid (by unfold settleI; rw [v1]; rfl)
    have V1 := Lib.hid v1
    clear v1
    go_enter Try.func41, Try.ntmps41
    go_wp2_with fail
    refine CC.out.mono ?_
    rintro e w1 ⟨rfl, hk1⟩
    rw [V1.out]
    go_wp2
    go_ret
    exact ⟨ret_int HV.out, kA.step hk1⟩
  · have ok := net_true v1
    have hlo := ok.lo
    have hm6 := ok.hi
    have HV : Hid ((settleF L (portT X) M m : Nat) = settleI m L X mm M) := Lib.hid (by unfold settleI; rw [v1]; rfl)
    have V1 := Lib.hid v1
    have HOK := Lib.hid ok
    have HLT := Lib.hid (settle_lt (L := L) (T := portT X) (M := M) hlo)
    have HAT := Lib.hid (settle_at (L := L) (T := portT X) (M := M) hlo)
    have HBE := Lib.hid (fun (k : Nat) (h : k < settleF L (portT X) M m) => (kinds_lt (L := L) (T := portT X) (M := M) k m).1 (settle_before h))
    clear v1 ok
    generalize hw0 : w.alloc (.cells #[.slice A m c, .slice B mm d] 27) = w0 at *
    generalize hbx : w.heap.size = bx at *
    have HW0 := Lib.hid hw0
    have HBX := Lib.hid hbx
    have HKA := Lib.hid kA
    have CF : Hid (∀ (x : Nat) (i : Int) w', i = x → x ≤ 7 → Keeps w0 w' → Calls Try.prog 62 #[.agg #[.slice A m c, .slice B mm d], .int .i64 i] w' (GiveInts m (fun v => (clsF L (portT X) M x v : Nat)) w')) := Lib.hid (fun x i w' hi hx hK => by rw [hi]; exact iclasses_any (c := c) (d := d) x w' (HN.out.keeps hK) HOK.out (by omega))
    clear hw0 hbx kA
    go_enter Try.func41, Try.ntmps41
    go_upto_region 1 with fail
    rw [HBX.out, HW0.out]
    go_wp2_with fail
    refine CC.out.mono ?_
    rintro e w1 ⟨rfl, hk1⟩
    rw [V1.out]
    go_wp2_with fail
    go_loopw [3] (fun i wr => ∃ q : Nat, Hid (q ≤ settleF L (portT X) M m) ∧ q ≤ 5 ∧ i = .int .i64 q ∧ Keeps w0 wr) (fun i _ => 6 - (intOf i).toNat)
    case atStart => exact ⟨0, Lib.hid (Nat.zero_le _), by omega, rfl, hk1⟩
    case round =>
      clear hk1
      obtain ⟨q, HQ, hq5, rfl, hK⟩ := hrel
      have g0 := cell_keeps hK d0
      have g1 := cell_keeps hK d1
      have HSZ := Lib.hid hK.size
      have hw1 : IntKind.i64.wrap ((q : Int) + 1) = (q : Int) + 1 := by rw [IntKind.wrap_i64]; omega
      have CQ := Lib.hid (fun w' hk => CF.out q q w' rfl (by omega) hk)
      have CP := Lib.hid (fun w' hk => CF.out (q + 1) ((q : Int) + 1) w' (by omega) (by omega) hk)
      have CE : Hid (∀ (g5 c5 g6 c6 : Nat) (w' : World), Ints w' (some ⟨g5, 0, none⟩) m (fun v => (clsF L (portT X) M q v : Nat)) → Ints w' (some ⟨g6, 0, none⟩) m (fun v => (clsF L (portT X) M (q + 1) v : Nat)) → Calls Try.prog 69 #[.slice (some ⟨g5, 0, none⟩) m c5, .slice (some ⟨g6, 0, none⟩) m c6] w' fun e w'' => e = .returned (.bool (decide (q = settleF L (portT X) M m))) ∧ Keeps w' w'') := Lib.hid (fun g5 c5 g6 c6 w' h5 h6 => by
        refine (slEqual_any _ _ m c5 m c6 _ _ w' (by omega) (by omega) h5 h6).mono ?_
        rintro e w2 ⟨rfl, h⟩
        refine ⟨ret_bool ?_, h⟩
        by_cases e : q = settleF L (portT X) M m
        · have : anyB (fun i => ((clsF L (portT X) M q i : Nat) : Int) != ((clsF L (portT X) M (q + 1) i : Nat) : Int)) m = false := il_eq_iff.1 (fun i hi => by rw [e, HAT.out i hi])
          rw [this]
          simp [e]
        · obtain ⟨v, hv, hne⟩ := HBE.out q (by have := HQ.out; omega)
          have : anyB (fun i => ((clsF L (portT X) M q i : Nat) : Int) != ((clsF L (portT X) M (q + 1) i : Nat) : Int)) m = true := (anyB_iff _ _).2 ⟨v, hv, by simp; omega⟩
          rw [this]
          simp [e])
      go_wp2_with fail
      go_region_held3 (fun w' => w'.cell? ⟨bx, 0, none⟩ = some (.slice A m c) ∧ w'.cell? ⟨bx, 1, none⟩ = some (.slice B mm d) ∧ Keeps wr w') (first | exact ⟨cell_keeps hk7 q0, cell_keeps hk7 q1, q2.step hk7⟩ | exact ⟨cell_keeps hk6 q0, cell_keeps hk6 q1, q2.step hk6⟩ | exact ⟨cell_keeps hk5 q0, cell_keeps hk5 q1, q2.step hk5⟩ | exact ⟨g0, g1, Keeps.drew1 _⟩) (first | (go_at_call 62; obtain ⟨q0, q1, q2⟩ : _ ∧ _ ∧ Keeps wr _ := (by assumption); (with_reducible refine (CQ.out _ (hK.step q2)).mono ?_); rintro e w5 ⟨g5, c5, rfl, hO5, hk5⟩) | (go_at_call 62; obtain ⟨q0, q1, q2⟩ : _ ∧ _ ∧ Keeps wr _ := (by assumption); (with_reducible refine (CP.out _ (hK.step q2)).mono ?_); rintro e w6 ⟨g6, c6, rfl, hO6, hk6⟩) | (go_at_call 69; obtain ⟨q0, q1, q2⟩ : _ ∧ _ ∧ Keeps wr _ := (by assumption); (with_reducible refine (CE.out _ _ _ _ _ (il_ints (hO5.keeps hk6)) (il_ints hO6)).mono ?_); rintro e w7 ⟨rfl, hk7⟩) | (go_at_call 69; obtain ⟨q0, q1, q2⟩ : _ ∧ _ ∧ Keeps wr _ := (by assumption); (with_reducible refine (CE.out _ _ _ _ _ (il_ints hO5) (il_ints (hO6.keeps hk5))).mono ?_); rintro e w7 ⟨rfl, hk7⟩))
      have hK7 := hK.step (q2.step hk7)
      by_cases e : q = settleF L (portT X) M m
      · have HE := Lib.hid e
        have he : decide (q = settleF L (portT X) M m) = true := by simp [e]
        rw [he]
        clear e he
        go_wp2_with fail
        go_ret
        exact ⟨ret_int (by rw [HE.out]; exact HV.out), HKA.out.step hK7⟩
      · have HE := Lib.hid e
        have he : decide (q = settleF L (portT X) M m) = false := by simp [e]
        have HQ5 : Hid (q + 1 ≤ settleF L (portT X) M m ∧ q + 1 ≤ 5) := Lib.hid (by have := HQ.out; have := HLT.out; omega)
        rw [he]
        clear e he
        go_wp2_with fail
        go_roundw
        case rel => exact ⟨q + 1, Lib.hid HQ5.out.1, HQ5.out.2, by go_num, hK7⟩
        case measure => simp [intOf]; omega
set_option maxRecDepth 100000 in
set_option maxHeartbeats 8000000 in
theorem sSettledAt_any (A B : Option Addr) (m c mm d : Nat) (r : Nat → Option Addr × Nat × Nat) (L : Nat → Nat) (X : Nat → Nat → Int) (M : Nat → Int) (w : World) (hN : NetAt w A m r B mm L X M) :
    Calls Try.prog 42 #[.agg #[.slice A m c, .slice B mm d]] w fun e w' => e = .returned (.int .i64 (settleI m L X mm M)) ∧ Keeps w w' := by
  have kA := Keeps.alloc w (.cells #[.slice A m c, .slice B mm d] 27)
  have hB := Blk.new w #[.slice A m c, .slice B mm d] 27
  have d0 : (w.alloc (.cells #[.slice A m c, .slice B mm d] 27)).cell? ⟨w.heap.size, 0, none⟩ = some (.slice A m c) := hB.cell 0
  have d1 : (w.alloc (.cells #[.slice A m c, .slice B mm d] 27)).cell? ⟨w.heap.size, 1, none⟩ = some (.slice B mm d) := hB.cell 1
  have CC := Lib.hid (svalidNet_any A B m c mm d r L X M _ (hN.keeps kA))
  have HN := Lib.hid (hN.keeps kA)
  clear hN hB
  cases v1 : netB m L X mm M
  · have HV : Hid (-1 = settleI m L X mm M) := Lib.hid (by unfold settleI; rw [v1]; rfl)
    have V1 := Lib.hid v1
    clear v1
    go_enter Try.func42, Try.ntmps42
    go_wp2_with fail
    refine CC.out.mono ?_
    rintro e w1 ⟨rfl, hk1⟩
    rw [V1.out]
    go_wp2
    go_ret
    exact ⟨ret_int HV.out, kA.step hk1⟩
  · have ok := net_true v1
    have hlo := ok.lo
    have hm6 := ok.hi
    have HV : Hid ((settleF L (portT X) M m : Nat) = settleI m L X mm M) := Lib.hid (by unfold settleI; rw [v1]; rfl)
    have V1 := Lib.hid v1
    have HOK := Lib.hid ok
    have HLT := Lib.hid (settle_lt (L := L) (T := portT X) (M := M) hlo)
    have HAT := Lib.hid (settle_at (L := L) (T := portT X) (M := M) hlo)
    have HBE := Lib.hid (fun (k : Nat) (h : k < settleF L (portT X) M m) => settle_before (L := L) (T := portT X) (M := M) (m := m) h)
    clear v1 ok
    generalize hw0 : w.alloc (.cells #[.slice A m c, .slice B mm d] 27) = w0 at *
    generalize hbx : w.heap.size = bx at *
    have HW0 := Lib.hid hw0
    have HBX := Lib.hid hbx
    have HKA := Lib.hid kA
    have CF : Hid (∀ (x : Nat) (i : Int) w', i = x → x ≤ 7 → Keeps w0 w' → Calls Try.prog 63 #[.agg #[.slice A m c, .slice B mm d], .int .i64 i] w' (GiveInts m (fun v => (clsF L (portT X) M x v : Nat)) w')) := Lib.hid (fun x i w' hi hx hK => by rw [hi]; exact sclassesAt_any (c := c) (d := d) x w' (HN.out.keeps hK) HOK.out (by omega))
    clear hw0 hbx kA
    go_enter Try.func42, Try.ntmps42
    go_upto_region 1 with fail
    rw [HBX.out, HW0.out]
    go_wp2_with fail
    refine CC.out.mono ?_
    rintro e w1 ⟨rfl, hk1⟩
    rw [V1.out]
    go_wp2_with fail
    go_loopw [3] (fun i wr => ∃ q : Nat, Hid (q ≤ settleF L (portT X) M m) ∧ q ≤ 5 ∧ i = .int .i64 q ∧ Keeps w0 wr) (fun i _ => 6 - (intOf i).toNat)
    case atStart => exact ⟨0, Lib.hid (Nat.zero_le _), by omega, rfl, hk1⟩
    case round =>
      clear hk1
      obtain ⟨q, HQ, hq5, rfl, hK⟩ := hrel
      have g0 := cell_keeps hK d0
      have g1 := cell_keeps hK d1
      have HSZ := Lib.hid hK.size
      have hw1 : IntKind.i64.wrap ((q : Int) + 1) = (q : Int) + 1 := by rw [IntKind.wrap_i64]; omega
      have CQ := Lib.hid (fun w' hk => CF.out q q w' rfl (by omega) hk)
      have CP := Lib.hid (fun w' hk => CF.out (q + 1) ((q : Int) + 1) w' (by omega) (by omega) hk)
      have HK0 : Hid (q = settleF L (portT X) M m → kindsN (clsF L (portT X) M (q + 1)) m = kindsN (clsF L (portT X) M q) m) := Lib.hid (fun e => by
        unfold kindsN
        exact cntB_congr m fun v hv => by rw [e, ← HAT.out v hv])
      have HK1 : Hid (q ≠ settleF L (portT X) M m → kindsN (clsF L (portT X) M q) m < kindsN (clsF L (portT X) M (q + 1)) m) := Lib.hid (fun e => HBE.out q (by have := HQ.out; omega))
      have CK : Hid (∀ (x : Nat → Nat) (g5 c5 : Nat) (w' : World), OwnInts w' w'.heap.size (some ⟨g5, 0, none⟩) m c5 (il m (fun v => (x v : Nat))) ∨ Ints w' (some ⟨g5, 0, none⟩) m (fun v => (x v : Nat)) → Calls Try.prog 68 #[.slice (some ⟨g5, 0, none⟩) m c5] w' fun e w'' => e = .returned (.int .i64 (kindsN x m : Nat)) ∧ w' = w'') := Lib.hid (fun x g5 c5 w' h => kinds_any w' (by omega) (by rcases h with h | h; exact il_ints h; exact h))
      go_wp2_with fail
      go_region_held3 (fun w' => w'.cell? ⟨bx, 0, none⟩ = some (.slice A m c) ∧ w'.cell? ⟨bx, 1, none⟩ = some (.slice B mm d) ∧ Keeps wr w') (first | exact ⟨cell_keeps hk6 q0, cell_keeps hk6 q1, q2.step hk6⟩ | exact ⟨cell_keeps hk5 q0, cell_keeps hk5 q1, q2.step hk5⟩ | exact ⟨g0, g1, Keeps.drew1 _⟩) (first | (go_at_call 63; obtain ⟨q0, q1, q2⟩ : _ ∧ _ ∧ Keeps wr _ := (by assumption); (with_reducible refine (CQ.out _ (hK.step q2)).mono ?_); rintro e w5 ⟨g5, c5, rfl, hO5, hk5⟩; have HI5 := Lib.hid (il_ints hO5); clear hO5) | (go_at_call 63; obtain ⟨q0, q1, q2⟩ : _ ∧ _ ∧ Keeps wr _ := (by assumption); (with_reducible refine (CP.out _ (hK.step q2)).mono ?_); rintro e w6 ⟨g6, c6, rfl, hO6, hk6⟩; have HI6 := Lib.hid (il_ints hO6); clear hO6) | (go_at_call 68; (with_reducible refine (CK.out (clsF L (portT X) M q) _ _ _ (.inr (HI5.out.keeps hk6))).mono ?_); rintro e w7 ⟨rfl, rfl⟩) | (go_at_call 68; (with_reducible refine (CK.out (clsF L (portT X) M q) _ _ _ (.inr HI5.out)).mono ?_); rintro e w7 ⟨rfl, rfl⟩) | (go_at_call 68; (with_reducible refine (CK.out (clsF L (portT X) M (q + 1)) _ _ _ (.inr HI6.out)).mono ?_); rintro e w8 ⟨rfl, rfl⟩) | (go_at_call 68; (with_reducible refine (CK.out (clsF L (portT X) M (q + 1)) _ _ _ (.inr (HI6.out.keeps hk5))).mono ?_); rintro e w8 ⟨rfl, rfl⟩))
      have hK7 := hK.step (q2.step hk6)
      by_cases e : q = settleF L (portT X) M m
      · have HE := Lib.hid e
        have he : decide (kindsN (clsF L (portT X) M q) m < kindsN (clsF L (portT X) M (q + 1)) m) = false := by rw [HK0.out e]; simp
        rw [he]
        clear e he
        go_wp2_with fail
        go_ret
        exact ⟨ret_int (by rw [HE.out]; exact HV.out), HKA.out.step hK7⟩
      · have HE := Lib.hid e
        have he : decide (kindsN (clsF L (portT X) M q) m < kindsN (clsF L (portT X) M (q + 1)) m) = true := by simpa using HK1.out e
        have HQ5 : Hid (q + 1 ≤ settleF L (portT X) M m ∧ q + 1 ≤ 5) := Lib.hid (by have := HQ.out; have := HLT.out; omega)
        rw [he]
        clear e he
        go_wp2_with fail
        go_roundw
        case rel => exact ⟨q + 1, Lib.hid HQ5.out.1, HQ5.out.2, by go_num, hK7⟩
        case measure => simp [intOf]; omega
set_option maxRecDepth 100000 in
set_option maxHeartbeats 8000000 in
theorem iIsElectable_any (A B : Option Addr) (m c mm d : Nat) (r : Nat → Option Addr × Nat × Nat) (L : Nat → Nat) (X : Nat → Nat → Int) (M : Nat → Int) (w : World) (hN : NetAt w A m r B mm L X M) :
    Calls Try.prog 38 #[.agg #[.slice A m c, .slice B mm d]] w fun e w' => e = .returned (.bool (electB m L X mm M)) ∧ Keeps w w' := by
  have kA := Keeps.alloc w (.cells #[.slice A m c, .slice B mm d] 27)
  have hB := Blk.new w #[.slice A m c, .slice B mm d] 27
  have d0 : (w.alloc (.cells #[.slice A m c, .slice B mm d] 27)).cell? ⟨w.heap.size, 0, none⟩ = some (.slice A m c) := hB.cell 0
  have d1 : (w.alloc (.cells #[.slice A m c, .slice B mm d] 27)).cell? ⟨w.heap.size, 1, none⟩ = some (.slice B mm d) := hB.cell 1
  have CC := Lib.hid (validNet_any A B m c mm d r L X M _ (hN.keeps kA))
  have HN := Lib.hid (hN.keeps kA)
  clear hN hB
  cases v1 : netB m L X mm M
  · have HV : Hid (false = electB m L X mm M) := Lib.hid (by unfold electB; rw [v1]; rfl)
    have V1 := Lib.hid v1
    clear v1
    go_enter Try.func38, Try.ntmps38
    go_wp2_with fail
    refine CC.out.mono ?_
    rintro e w1 ⟨rfl, hk1⟩
    rw [V1.out]
    go_wp2
    go_ret
    exact ⟨ret_bool HV.out, kA.step hk1⟩
  · have ok := net_true v1
    have hlo := ok.lo
    have hm6 := ok.hi
    have HV : Hid ((!anyB (fun v => !(clsF L (portT X) M 6 v == v)) m) = electB m L X mm M) := Lib.hid (by unfold electB; rw [v1]; rfl)
    have V1 := Lib.hid v1
    have HOK := Lib.hid ok
    clear v1 ok
    generalize hw0 : w.alloc (.cells #[.slice A m c, .slice B mm d] 27) = w0 at *
    generalize hbx : w.heap.size = bx at *
    have HW0 := Lib.hid hw0
    have HBX := Lib.hid hbx
    have HKA := Lib.hid kA
    have CF : Hid (∀ w', Keeps w0 w' → Calls Try.prog 62 #[.agg #[.slice A m c, .slice B mm d], .int .i64 6] w' (GiveInts m (fun v => (clsF L (portT X) M 6 v : Nat)) w')) := Lib.hid (fun w' hK => iclasses_any (c := c) (d := d) 6 w' (HN.out.keeps hK) HOK.out (by omega))
    clear hw0 hbx kA
    go_enter Try.func38, Try.ntmps38
    go_upto_region 1 with fail
    rw [HBX.out, HW0.out]
    go_wp2_with fail
    refine CC.out.mono ?_
    rintro e w1 ⟨rfl, hk1⟩
    rw [V1.out]
    have g0 := cell_keeps hk1 d0
    have g1 := cell_keeps hk1 d1
    go_wp2_with fail
    refine (CF.out _ hk1).mono ?_
    rintro e w2 ⟨g, cg, rfl, hO, hk2⟩
    have HI := Lib.hid (il_ints hO)
    have hK2 := hk1.step hk2
    clear hO hk1 hk2 g0 g1
    go_wp2_with fail
    go_loop [11] (fun i => ∃ v : Nat, v ≤ m ∧ i = .int .i64 v ∧ Hid (anyB (fun v => !(clsF L (portT X) M 6 v == v)) v = false)) (fun i => m - (intOf i).toNat)
    case atStart => exact ⟨0, by omega, rfl, Lib.hid rfl⟩
    case round =>
      obtain ⟨v, hv, rfl, HB⟩ := hrel
      by_cases hlt : v < m
      · have hvi : (v : Int) < m := by omega
        obtain ⟨_, _, eg, hc⟩ := HI.out v hlt
        cases eg
        rw [Nat.zero_add] at hc
        have HNX : Hid (anyB (fun v => !(clsF L (portT X) M 6 v == v)) (v + 1) = !(clsF L (portT X) M 6 v == v)) := Lib.hid (by
          have : anyB (fun v => !(clsF L (portT X) M 6 v == v)) (v + 1) = (anyB (fun v => !(clsF L (portT X) M 6 v == v)) v || !(clsF L (portT X) M 6 v == v)) := rfl
          rw [this, HB.out]; rfl)
        have HUP : Hid (anyB (fun v => !(clsF L (portT X) M 6 v == v)) (v + 1) = true → false = electB m L X mm M) := Lib.hid (fun h => by
          rw [← HV.out, anyB_up h hlt]; rfl)
        (try dsimp only at hc)
        generalize clsF L (portT X) M 6 v = x at *
        by_cases e : x = v
        · have HB2 : Hid (anyB (fun v => !(clsF L (portT X) M 6 v == v)) (v + 1) = false) := Lib.hid (by rw [HNX.out, e]; simp)
          subst e
          have hx : ((x : Int) != (x : Int)) = false := by simp
          go_wp2
          go_round
          case rel => exact ⟨x + 1, by omega, by go_num, HB2⟩
          case measure => simp [intOf]; omega
        · have HF := Lib.hid (HUP.out (by rw [HNX.out]; simp [e]))
          have hx : ((v : Int) != (x : Int)) = true := by simp; omega
          clear e
          go_wp2
          go_ret
          exact ⟨ret_bool HF.out, HKA.out.step hK2⟩
      · obtain rfl : v = m := by omega
        go_wp2
        go_ret
        exact ⟨ret_bool (by rw [← HV.out, HB.out]; rfl), HKA.out.step hK2⟩
set_option maxRecDepth 100000 in
set_option maxHeartbeats 8000000 in
theorem sIsElectable_any (A B : Option Addr) (m c mm d : Nat) (r : Nat → Option Addr × Nat × Nat) (L : Nat → Nat) (X : Nat → Nat → Int) (M : Nat → Int) (w : World) (hN : NetAt w A m r B mm L X M) :
    Calls Try.prog 39 #[.agg #[.slice A m c, .slice B mm d]] w fun e w' => e = .returned (.bool (electB m L X mm M)) ∧ Keeps w w' := by
  have kA := Keeps.alloc w (.cells #[.slice A m c, .slice B mm d] 27)
  have hB := Blk.new w #[.slice A m c, .slice B mm d] 27
  have d0 : (w.alloc (.cells #[.slice A m c, .slice B mm d] 27)).cell? ⟨w.heap.size, 0, none⟩ = some (.slice A m c) := hB.cell 0
  have d1 : (w.alloc (.cells #[.slice A m c, .slice B mm d] 27)).cell? ⟨w.heap.size, 1, none⟩ = some (.slice B mm d) := hB.cell 1
  have CC : Hid (∀ w', Keeps (w.alloc (.cells #[.slice A m c, .slice B mm d] 27)) w' → Calls Try.prog 52 #[.agg #[.slice A m c, .slice B mm d]] w' fun e w'' => e = .returned (.bool (netB m L X mm M)) ∧ Keeps w' w'') := Lib.hid (fun w' hk => svalidNet_any A B m c mm d r L X M _ ((hN.keeps kA).keeps hk))
  have HN := Lib.hid (hN.keeps kA)
  clear hN hB
  generalize hw0 : w.alloc (.cells #[.slice A m c, .slice B mm d] 27) = w0 at *
  generalize hbx : w.heap.size = bx at *
  have HW0 := Lib.hid hw0
  have HBX := Lib.hid hbx
  have HKA := Lib.hid kA
  clear hw0 hbx kA
  cases v1 : netB m L X mm M
  · have HV : Hid (false = electB m L X mm M) := Lib.hid (by unfold electB; rw [v1]; rfl)
    rw [v1] at CC
    clear v1
    go_enter Try.func39, Try.ntmps39
    go_upto_region 1 with fail
    rw [HBX.out, HW0.out]
    go_wp2_with fail
    first | (go_region_with (first | (go_at_call 52; (with_reducible refine (CC.out _ (Keeps.drew1 _)).mono ?_); rintro e w5 ⟨rfl, hk5⟩))) | fail
    all_goals
      go_wp2_with fail
      go_ret
      exact ⟨ret_bool HV.out, HKA.out.step ((Keeps.drew1 _).step hk5)⟩
  · have ok := net_true v1
    have hlo := ok.lo
    have hm6 := ok.hi
    have HV : Hid ((kindsN (clsF L (portT X) M 6) m == m) = electB m L X mm M) := Lib.hid (by unfold electB; rw [v1, kinds_all]; rfl)
    have HOK := Lib.hid ok
    rw [v1] at CC
    clear v1 ok
    have CF : Hid (∀ w', Keeps w0 w' → Calls Try.prog 63 #[.agg #[.slice A m c, .slice B mm d], .int .i64 6] w' (GiveInts m (fun v => (clsF L (portT X) M 6 v : Nat)) w')) := Lib.hid (fun w' hK => sclassesAt_any (c := c) (d := d) 6 w' (HN.out.keeps hK) HOK.out (by omega))
    have CK : Hid (∀ (g5 c5 : Nat) (w' : World), Ints w' (some ⟨g5, 0, none⟩) m (fun v => (clsF L (portT X) M 6 v : Nat)) → Calls Try.prog 68 #[.slice (some ⟨g5, 0, none⟩) m c5] w' fun e w'' => e = .returned (.int .i64 (kindsN (clsF L (portT X) M 6) m : Nat)) ∧ w' = w'') := Lib.hid (fun g5 c5 w' h => kinds_any w' (by omega) h)
    generalize kindsN (clsF L (portT X) M 6) m = kk at *
    go_enter Try.func39, Try.ntmps39
    go_upto_region 1 with fail
    rw [HBX.out, HW0.out]
    go_wp2_with fail
    go_region_held3 (fun w' => w'.cell? ⟨bx, 0, none⟩ = some (.slice A m c) ∧ w'.cell? ⟨bx, 1, none⟩ = some (.slice B mm d) ∧ Keeps w0 w') (first | exact ⟨cell_keeps hk6 q0, cell_keeps hk6 q1, q2.step hk6⟩ | exact ⟨cell_keeps hk5 q0, cell_keeps hk5 q1, q2.step hk5⟩ | exact ⟨d0, d1, Keeps.drew1 _⟩) (first | (go_at_call 52; obtain ⟨q0, q1, q2⟩ : _ ∧ _ ∧ Keeps w0 _ := (by assumption); (with_reducible refine (CC.out _ q2).mono ?_); rintro e w5 ⟨rfl, hk5⟩) | (go_at_call 63; obtain ⟨q0, q1, q2⟩ : _ ∧ _ ∧ Keeps w0 _ := (by assumption); (with_reducible refine (CF.out _ q2).mono ?_); rintro e w6 ⟨g6, c6, rfl, hO6, hk6⟩; have HI6 := Lib.hid (il_ints hO6); clear hO6) | (go_at_call 68; (with_reducible refine (CK.out _ _ _ HI6.out).mono ?_); rintro e w7 ⟨rfl, rfl⟩))
    go_wp2_with fail
    go_ret
    exact ⟨ret_bool (by rw [← HV.out, Bool.eq_iff_iff]; simp only [beq_iff_eq]; omega), HKA.out.step (q2.step hk6)⟩
end
end Go.Proofs.Ytdjilgbcpdlkfaa
