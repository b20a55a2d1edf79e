/-
  The contracts of classes and ClassesAt of the program. Condition: a valid net.
-/
import Derived.Test.YtdjilgbcpdlkfaaSettled
namespace Go.Proofs.Ytdjilgbcpdlkfaa
open Go.RowKit

section
variable {A B C : Option Addr} {m c mm d cc : Nat} {r : Nat → Option Addr × Nat × Nat} {L : Nat → Nat} {X : Nat → Nat → Int} {M : Nat → Int} {k : Nat → Nat}
set_option maxRecDepth 100000 in
set_option maxHeartbeats 4000000 in
theorem classes1_any (bn u v : Nat) (w : World) (hI : Ints w B m M) (hu : u < m) (hv : v < m) (c1 : w.cell? ⟨bn, 1, none⟩ = some (.slice B m d)) :
    Calls Try.prog 78 #[.int .i64 u, .int .i64 v, .pointer (some ⟨bn, 0, none⟩)] w fun e w' => e = .returned (.bool (marksB M u v)) ∧ Keeps w w' := by
  obtain ⟨bM, oM, rfl, hcu⟩ := hI u hu
  obtain ⟨_, _, eM, hcv⟩ := hI v hv
  cases eM
  have hui : (u : Int) < m := by omega
  have hvi : (v : Int) < m := by omega
  have HV : Hid (marksB M u v = (M u == M v)) := Lib.hid rfl
  generalize M u = x at *
  generalize M v = y at *
  clear hI
  go_enter Try.func78, Try.ntmps78
  go_wp2_with fail
  go_region_held3 (fun w' => w'.cell? ⟨bn, 1, none⟩ = some (.slice (some ⟨bM, oM, none⟩) m d) ∧ w'.cell? ⟨bM, oM + u, none⟩ = some (.int .i64 x) ∧ w'.cell? ⟨bM, oM + v, none⟩ = some (.int .i64 y) ∧ Keeps w w') (first | exact ⟨c1, hcu, hcv, Keeps.drew1 _⟩) (fail)
  go_wp2
  go_ret
  exact ⟨ret_bool HV.out.symm, Keeps.drew1 _⟩
set_option maxRecDepth 100000 in
set_option maxHeartbeats 4000000 in
theorem classes2_any (bn bc u v : Nat) (w : World) (hN : NetAt w A m r B mm L X M) (ok : NetOk m L X mm M) (hu : u < m) (hv : v < m)
  (c0 : w.cell? ⟨bn, 0, none⟩ = some (.slice A m c)) (c1 : w.cell? ⟨bn, 1, none⟩ = some (.slice B mm d)) (c2 : w.cell? ⟨bc, 0, none⟩ = some (.slice C m cc)) (hC : Ints w C m (fun x => (k x : Nat))) :
    Calls Try.prog 79 #[.int .i64 u, .int .i64 v, .pointer (some ⟨bn, 0, none⟩), .pointer (some ⟨bc, 0, none⟩)] w fun e w' => e = .returned (.bool (alikeB L (portT X) k u v)) ∧ Keeps w w' := by
  have CA := Lib.hid (alike_any (c := c) (d := d) (cc := cc) u v w hN ok hu hv hC)
  clear hN ok hC
  go_enter Try.func79, Try.ntmps79
  go_wp2_with fail
  refine CA.out.mono ?_
  rintro e w1 ⟨rfl, hk1⟩
  go_wp2
  go_ret
  exact ⟨rfl, hk1⟩
set_option maxRecDepth 100000 in
set_option maxHeartbeats 8000000 in
theorem iclasses_any (rr : Nat) (w : World) (hN : NetAt w A m r B mm L X M) (ok : NetOk m L X mm M) (hr : rr ≤ 1000) :
    Calls Try.prog 62 #[.agg #[.slice A m c, .slice B mm d], .int .i64 rr] w (GiveInts m (fun v => (clsF L (portT X) M rr v : Nat)) w) := by
  have hm6 := ok.hi
  have hmm := ok.mm.symm
  subst hmm
  have kA := Keeps.alloc w (.cells #[.slice A m c, .slice B m d] 27)
  have hB1 := Blk.new w #[.slice A m c, .slice B m d] 27
  have d0 : (w.alloc (.cells #[.slice A m c, .slice B m d] 27)).cell? ⟨w.heap.size, 0, none⟩ = some (.slice A m c) := hB1.cell 0
  have d1 : (w.alloc (.cells #[.slice A m c, .slice B m d] 27)).cell? ⟨w.heap.size, 1, none⟩ = some (.slice B m d) := hB1.cell 1
  have HN := Lib.hid (hN.keeps kA)
  generalize hw0 : w.alloc (.cells #[.slice A m c, .slice B m d] 27) = w0 at *
  have HW0 := Lib.hid hw0
  have HKA := Lib.hid kA
  have HOK := Lib.hid ok
  have hmb := hN.mb
  have C1 := Lib.hid (leastOf_any 78 #[.pointer (some ⟨w.heap.size, 0, none⟩)] m (marksB M) w0 hm6 (fun v _ => by simp [marksB]) (fun _ _ => rfl) (fun u v w' hu hv hk => by simpa using classes1_any (d := d) w.heap.size u v w' (HN.out.marks.keeps hk) hu hv (cell_keeps hk d1)))
  have HZ : Hid (∀ v, repF (marksB M) v = clsF L (portT X) M 0 v) := Lib.hid (fun v => rfl)
  have HS : Hid (∀ q v, repF (alikeB L (portT X) (clsF L (portT X) M q)) v = clsF L (portT X) M (q + 1) v) := Lib.hid (fun q v => rfl)
  clear hN kA hB1 hw0 ok
  go_enter Try.func62, Try.ntmps62
  go_upto_region 1 with fail
  rw [HW0.out]
  go_wp2_with fail
  refine C1.out.mono ?_
  rintro e w1 ⟨g1, q1, rfl, hO1, hk1⟩
  have HO1 : Hid (OwnInts w1 w.heap.size (some ⟨g1, 0, none⟩) m q1 (il m (fun v => (clsF L (portT X) M 0 v : Nat)))) := Lib.hid (hO1.mono HKA.out.size)
  clear hO1
  go_wp2_with fail
  go_loopw [15, 6] (fun i cv wr => ∃ (q g cp : Nat), q ≤ rr ∧ i = .int .i64 q ∧ cv = .slice (some ⟨g, 0, none⟩) m cp ∧ Hid (OwnInts wr w.heap.size (some ⟨g, 0, none⟩) m cp (il m (fun v => (clsF L (portT X) M q v : Nat)))) ∧ Keeps w0 wr) (fun i _ _ => rr - (intOf i).toNat)
  case atStart => exact ⟨0, g1, q1, by omega, rfl, rfl, HO1, hk1⟩
  case round =>
    clear HO1 hk1
    obtain ⟨q, g, cp, hq, rfl, rfl, HO, hK⟩ := hrel
    by_cases hlt : q < rr
    · have hqi : (q : Int) < rr := by omega
      have kW := Keeps.alloc wr (.cells #[.slice (some ⟨g, 0, none⟩) m cp] 23)
      have hcb : (wr.alloc (.cells #[.slice (some ⟨g, 0, none⟩) m cp] 23)).cell? ⟨wr.heap.size, 0, none⟩ = some (.slice (some ⟨g, 0, none⟩) m cp) := (Blk.new wr #[.slice (some ⟨g, 0, none⟩) m cp] 23).cell 0
      have hI := il_ints (HO.out.keeps kW)
      have hK2 := hK.step kW
      have C2 := Lib.hid (leastOf_any 79 #[.pointer (some ⟨w.heap.size, 0, none⟩), .pointer (some ⟨wr.heap.size, 0, none⟩)] m (alikeB L (portT X) (clsF L (portT X) M q)) (wr.alloc (.cells #[.slice (some ⟨g, 0, none⟩) m cp] 23)) hm6 (fun v hv => (alike_equi m L (portT X) _).refl v hv) (fun _ _ => rfl) (fun u v w' hu hv hk => by
        have := classes2_any (c := c) (d := d) (cc := cp) (k := clsF L (portT X) M q) w.heap.size wr.heap.size u v w' (HN.out.keeps (hK2.step hk)) HOK.out hu hv (cell_keeps (hK2.step hk) d0) (cell_keeps (hK2.step hk) d1) (cell_keeps hk hcb) (hI.keeps hk)
        simpa using this))
      have HK2 := Lib.hid hK2
      have HSZ : Hid (w.heap.size ≤ (wr.alloc (.cells #[.slice (some ⟨g, 0, none⟩) m cp] 23)).heap.size) := Lib.hid (Nat.le_trans HKA.out.size hK2.size)
      clear kW hcb hI hK2 hK HO
      go_wp2_with fail
      refine C2.out.mono ?_
      rintro e w2 ⟨g2, q2, rfl, hO2, hk2⟩
      have HO2 : Hid (OwnInts w2 w.heap.size (some ⟨g2, 0, none⟩) m q2 (il m (fun v => (clsF L (portT X) M (q + 1) v : Nat)))) := Lib.hid (hO2.mono HSZ.out)
      clear hO2
      go_wp2
      go_roundw
      case rel => exact ⟨q + 1, g2, q2, by omega, by go_num, rfl, HO2, HK2.out.step hk2⟩
      case measure => simp [intOf]; omega
    · obtain rfl : q = rr := by omega
      go_wp2
      go_ret
      exact ⟨g, cp, rfl, HO.out, HKA.out.step hK⟩
end
/-- The classes after s rounds; nothing if the net or s is out of bounds. -/
def clsL (m : Nat) (L : Nat → Nat) (X : Nat → Nat → Int) (mm : Nat) (M : Nat → Int) (s : Int) : List Int := if netB m L X mm M && inB s 0 6 then il m (fun v => (clsF L (portT X) M s.toNat v : Nat)) else []
theorem clsL_len (m : Nat) (L : Nat → Nat) (X : Nat → Nat → Int) (mm : Nat) (M : Nat → Int) (s : Int) : (clsL m L X mm M s).length ≤ m := by
  unfold clsL
  split
  · rw [il_len]; exact Nat.le_refl _
  · exact Nat.zero_le _
section
variable {A B C : Option Addr} {m c mm d cc : Nat} {r : Nat → Option Addr × Nat × Nat} {L : Nat → Nat} {X : Nat → Nat → Int} {M : Nat → Int} {k : Nat → Nat}
set_option maxRecDepth 100000 in
set_option maxHeartbeats 4000000 in
theorem iClassesAt_any (A B : Option Addr) (m c mm d : Nat) (r : Nat → Option Addr × Nat × Nat) (L : Nat → Nat) (X : Nat → Nat → Int) (M : Nat → Int) (s : Int) (w : World) (hN : NetAt w A m r B mm L X M) :
    Calls Try.prog 31 #[.agg #[.slice A m c, .slice B mm d], .int .i64 s] w (GiveL (clsL m L X mm M s) w) := by
  have kA := Keeps.alloc w (.cells #[.slice A m c, .slice B mm d] 27)
  have hB := Blk.new w #[.slice A m c, .slice B mm d] 27
  have HB0 := Lib.hid (show (w.alloc (.cells #[.slice A m c, .slice B mm d] 27)).cell? ⟨w.heap.size, 0, none⟩ = some (.slice A m c) from hB.cell 0)
  have HB1 := Lib.hid (show (w.alloc (.cells #[.slice A m c, .slice B mm d] 27)).cell? ⟨w.heap.size, 1, none⟩ = some (.slice B mm d) from hB.cell 1)
  have CC := Lib.hid (validNet_any A B m c mm d r L X M _ (hN.keeps kA))
  have HN := Lib.hid (hN.keeps kA)
  clear hN hB
  cases v1 : netB m L X mm M
  · have HV : Hid (clsL m L X mm M s = []) := Lib.hid (by unfold clsL; rw [v1]; rfl)
    have V1 := Lib.hid v1
    clear v1
    go_enter Try.func31, Try.ntmps31
    go_wp2_with fail
    refine CC.out.mono ?_
    rintro e w1 ⟨rfl, hk1⟩
    rw [V1.out]
    go_wp2
    go_ret
    exact GiveL.nil HV.out (kA.step hk1)
  · cases v2 : inB s 0 6
    · have HV : Hid (clsL m L X mm M s = []) := Lib.hid (by unfold clsL; rw [v1, v2]; rfl)
      have V1 := Lib.hid v1
      have V2 := Lib.hid v2
      clear v1 v2
      go_enter Try.func31, Try.ntmps31
      go_wp2_with fail
      refine CC.out.mono ?_
      rintro e w1 ⟨rfl, hk1⟩
      rw [V1.out]
      have q0 := cell_keeps hk1 HB0.out
      have q1 := cell_keeps hk1 HB1.out
      go_wp2_with fail
      refine (within_any _ _ _ _).mono ?_
      rintro e w2 ⟨rfl, rfl⟩
      rw [V2.out]
      go_wp2
      go_ret
      exact GiveL.nil HV.out (kA.step hk1)
    · have ok := net_true v1
      have hs2 := inB_true v2
      obtain ⟨k, rfl⟩ := Int.eq_ofNat_of_zero_le hs2.1
      have HV : Hid (clsL m L X mm M k = il m (fun v => (clsF L (portT X) M k v : Nat))) := Lib.hid (by unfold clsL; rw [v1, v2]; rfl)
      have V1 := Lib.hid v1
      have V2 := Lib.hid v2
      have CF := Lib.hid (fun w' (hK : Keeps (w.alloc (.cells #[.slice A m c, .slice B mm d] 27)) w') => iclasses_any (c := c) (d := d) k w' (HN.out.keeps hK) ok (by omega))
      clear v1 v2 ok
      go_enter Try.func31, Try.ntmps31
      go_wp2_with fail
      refine CC.out.mono ?_
      rintro e w1 ⟨rfl, hk1⟩
      rw [V1.out]
      have q0 := cell_keeps hk1 HB0.out
      have q1 := cell_keeps hk1 HB1.out
      go_wp2_with fail
      refine (within_any _ _ _ _).mono ?_
      rintro e w2 ⟨rfl, rfl⟩
      rw [V2.out]
      go_wp2_with fail
      refine (CF.out _ hk1).mono ?_
      rintro e w2 ⟨g, cg, rfl, hO, hk2⟩
      have HO := Lib.hid hO
      clear hO
      go_wp2
      go_ret
      exact GiveL.of HV.out HO.out (kA.step hk1) hk2
end
end Go.Proofs.Ytdjilgbcpdlkfaa
