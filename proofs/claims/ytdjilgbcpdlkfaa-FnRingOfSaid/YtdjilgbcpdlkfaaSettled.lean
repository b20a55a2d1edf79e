/-
  The contracts of alike, classes, ClassesAt, SettledAt and IsElectable of the program. Condition: a valid net.
-/
import Derived.Test.YtdjilgbcpdlkfaaAlike
namespace Go.Proofs.Ytdjilgbcpdlkfaa
open Go.RowKit

section
variable {A B C : Option Addr} {m c mm d cc : Nat} {r : Nat → Option Addr × Nat × Nat} {L : Nat → Nat} {X : Nat → Nat → Int} {M : Nat → Int} {k : Nat → Nat}
theorem anyB_up {p : Nat → Bool} {n j : Nat} (h : anyB p (j + 1) = true) (hj : j < n) : anyB p n = true := by
  cases e : anyB p n
  · have h1 := (anyB_false p n).1 e
    have h2 : anyB p (j + 1) = false := (anyB_false _ _).2 fun i hi => h1 i (by omega)
    rw [h2] at h; cases h
  · rfl
set_option maxRecDepth 100000 in
set_option maxHeartbeats 8000000 in
theorem alike_any (u v : Nat) (w : World) (hN : NetAt w A m r B mm L X M) (ok : NetOk m L X mm M) (hu : u < m) (hv : v < m) (hC : Ints w C m (fun x => (k x : Nat))) :
    Calls Try.prog 80 #[.agg #[.slice A m c, .slice B mm d], .int .i64 u, .int .i64 v, .slice C m cc] w fun e w' => e = .returned (.bool (alikeB L (portT X) k u v)) ∧ Keeps w w' := by
  have kA := (Keeps.alloc w (.cells #[.slice A m c, .slice B mm d] 27)).step (Keeps.alloc _ (.cells #[.slice C m cc] 23))
  have hB1 := (Blk.new w #[.slice A m c, .slice B mm d] 27).keeps (Keeps.alloc _ (.cells #[.slice C m cc] 23))
  have hB2 := Blk.new (w.alloc (.cells #[.slice A m c, .slice B mm d] 27)) #[.slice C m cc] 23
  have d0 : ((w.alloc (.cells #[.slice A m c, .slice B mm d] 27)).alloc (.cells #[.slice C m cc] 23)).cell? ⟨w.heap.size, 0, none⟩ = some (.slice A m c) := hB1.cell 0
  have d1 : ((w.alloc (.cells #[.slice A m c, .slice B mm d] 27)).alloc (.cells #[.slice C m cc] 23)).cell? ⟨w.heap.size + 1, 0, none⟩ = some (.slice C m cc) := by
    have := hB2.cell 0
    rw [show (w.alloc (.cells #[.slice A m c, .slice B mm d] 27)).heap.size = w.heap.size + 1 by simp] at this
    exact this
  have HN1 := Lib.hid (hN.keeps kA)
  have HC1 : Hid (Ints ((w.alloc (.cells #[.slice A m c, .slice B mm d] 27)).alloc (.cells #[.slice C m cc] 23)) C m (fun x => (k x : Nat))) := Lib.hid (hC.keeps kA)
  generalize hw0 : (w.alloc (.cells #[.slice A m c, .slice B mm d] 27)).alloc (.cells #[.slice C m cc] 23) = w0 at *
  have HW0 := Lib.hid hw0
  have HKA := Lib.hid kA
  obtain ⟨⟨bA, oA, rfl, hcU⟩, _⟩ := HN1.out.rows u hu
  obtain ⟨⟨_, _, eA, hcV⟩, _⟩ := HN1.out.rows v hv
  cases eA
  have hlu := HN1.out.len u hu
  have hlv := HN1.out.len v hv
  have hcapu := HN1.out.cap u hu
  have hcapv := HN1.out.cap v hv
  have hmb := hN.mb
  obtain ⟨bC, oC, rfl, hcCu⟩ := HC1.out u hu
  obtain ⟨_, _, eC, hcCv⟩ := HC1.out v hv
  cases eC
  (try dsimp only at hcCu hcCv)
  obtain ⟨ua, un, uc, hru⟩ : ∃ ua un uc, r u = (ua, un, uc) := ⟨_, _, _, rfl⟩
  obtain ⟨va, vn, vc, hrv⟩ : ∃ va vn vc, r v = (va, vn, vc) := ⟨_, _, _, rfl⟩
  rw [hru] at hcU hlu hcapu
  rw [hrv] at hcV hlv hcapv
  dsimp only at hcU hcV hlu hlv hcapu hcapv
  have HAL : Hid (alikeB L (portT X) k u v = ((k u == k v) && (un == vn) && !anyB (linkBad L (portT X) k u v) vn)) := Lib.hid (by unfold alikeB; rw [← hlu, ← hlv])
  have HLNK : Hid (∀ p, linkBad L (portT X) k u v p = (!(k (portT X u p) == k (portT X v p)) || !(backF L (portT X) u p == backF L (portT X) v p))) := Lib.hid (fun p => rfl)
  have HLU := Lib.hid hlu
  have HLV := Lib.hid hlv
  have HOK := Lib.hid ok
  have hui : (u : Int) < m := by omega
  have hvi : (v : Int) < m := by omega
  clear hN hC hB1 hB2 kA hw0 hlu hlv ok hru hrv
  go_enter Try.func80, Try.ntmps80
  go_upto_region 1 with fail
  rw [HW0.out]
  go_wp2_with fail
  by_cases e1 : k u = k v
  · have hkn : ((k u : Int) != (k v : Int)) = false := by simp [e1]
    by_cases e2 : un = vn
    · rw [e2] at hcU
      generalize k u = ku at *
      generalize k v = kv at *
      clear e1
      go_region_held3 (fun w' => w'.cell? ⟨w.heap.size, 0, none⟩ = some (.slice (some ⟨bA, oA, none⟩) m c) ∧ w'.cell? ⟨w.heap.size + 1, 0, none⟩ = some (.slice (some ⟨bC, oC, none⟩) m cc) ∧ w'.cell? ⟨bA, oA + u, none⟩ = some (.slice ua vn uc) ∧ w'.cell? ⟨bA, oA + v, none⟩ = some (.slice va vn vc) ∧ w'.cell? ⟨bC, oC + u, none⟩ = some (.int .i64 ku) ∧ w'.cell? ⟨bC, oC + v, none⟩ = some (.int .i64 kv) ∧ Keeps w0 w') (first | exact ⟨d0, d1, hcU, hcV, hcCu, hcCv, Keeps.drew1 _⟩) (fail)
      have HE : Hid (un = vn) := Lib.hid e2
      have HKE : Hid (alikeB L (portT X) k u v = !anyB (linkBad L (portT X) k u v) vn) := Lib.hid (by
        rw [HAL.out, e2]
        have : ku = kv := by have h := hkn; simp at h; omega
        rw [this]; simp)
      have hf : ∀ (args : Array Value) (w : World), (callFunc 88 args).run Try.prog w = .ok (.enter 88 args) w := fun _ _ => rfl
      clear HAL hkn e2
      go_wp2_with fail
      go_loopw [42] (fun i wr => ∃ p : Nat, p ≤ vn ∧ i = .int .i64 p ∧ Hid (anyB (linkBad L (portT X) k u v) p = false) ∧ Keeps w0 wr) (fun i _ => vn - (intOf i).toNat)
      case atStart => exact ⟨0, by omega, rfl, Lib.hid rfl, Keeps.drew1 _⟩
      case round =>
        obtain ⟨p, hp, rfl, HB, hK⟩ := hrel
        by_cases hlt : p < vn
        · have hpi : (p : Int) < vn := by omega
          have CU := Lib.hid (alike1_any w.heap.size (w.heap.size + 1) u p wr (HN1.out.keeps hK) HOK.out hu (by rw [← HLU.out, HE.out]; exact hlt) (cell_keeps hK d0) (cell_keeps hK d1) (HC1.out.keeps hK))
          have CV := Lib.hid (fun w' (hk : Keeps w0 w') => alike1_any w.heap.size (w.heap.size + 1) v p w' (HN1.out.keeps hk) HOK.out hv (by rw [← HLV.out]; exact hlt) (cell_keeps hk d0) (cell_keeps hk d1) (HC1.out.keeps hk))
          have HNX : Hid (anyB (linkBad L (portT X) k u v) (p + 1) = (!(k (portT X u p) == k (portT X v p)) || !(backF L (portT X) u p == backF L (portT X) v p))) := Lib.hid (by
            have : anyB (linkBad L (portT X) k u v) (p + 1) = (anyB (linkBad L (portT X) k u v) p || linkBad L (portT X) k u v p) := rfl
            rw [this, HB.out, HLNK.out]; rfl)
          have HBAD : Hid (anyB (linkBad L (portT X) k u v) (p + 1) = true → false = alikeB L (portT X) k u v) := Lib.hid (fun h => by
            rw [HKE.out]
            have : anyB (linkBad L (portT X) k u v) vn = true := anyB_up h hlt
            rw [this]; rfl)
          generalize k (portT X u p) = x1 at *
          generalize k (portT X v p) = x2 at *
          generalize backF L (portT X) u p = y1 at *
          generalize backF L (portT X) v p = y2 at *
          go_wp2_with fail
          refine CU.out.mono ?_
          rintro e w5 ⟨rfl, hk5⟩
          have hK5 := hK.step hk5
          go_wp2_with fail
          refine (CV.out w5 hK5).mono ?_
          rintro e w6 ⟨rfl, hk6⟩
          have hK6 := hK5.step hk6
          clear hk5 hk6 hK hK5
          by_cases e3 : x1 = x2
          · by_cases e4 : y1 = y2
            · have HV : Hid (anyB (linkBad L (portT X) k u v) (p + 1) = false) := Lib.hid (by rw [HNX.out, e3, e4]; simp)
              subst e3
              subst e4
              go_wp2
              go_roundw
              case rel => exact ⟨p + 1, by omega, by go_num, HV, hK6⟩
              case measure => simp [intOf]; omega
            · have HV := Lib.hid (HBAD.out (by rw [HNX.out]; simp [e4]))
              have hy : (y1 == y2) = false := by simp [e4]
              clear HBAD HNX
              subst e3
              go_wp2
              go_ret
              exact ⟨ret_bool HV.out, HKA.out.step hK6⟩
          · have HV := Lib.hid (HBAD.out (by rw [HNX.out]; simp [e3]))
            have hy : ((x1 : Int) == (x2 : Int)) = false := by simp; omega
            clear HBAD HNX
            go_wp2
            go_ret
            exact ⟨ret_bool HV.out, HKA.out.step hK6⟩
        · obtain rfl : p = vn := by omega
          have HV : Hid (true = alikeB L (portT X) k u v) := Lib.hid (by rw [HKE.out, HB.out]; rfl)
          go_wp2
          go_ret
          exact ⟨ret_bool HV.out, HKA.out.step hK⟩
    · have hln : ((un : Int) != (vn : Int)) = true := by simp; omega
      have HV : Hid (false = alikeB L (portT X) k u v) := Lib.hid (by rw [HAL.out]; simp [e2])
      generalize k u = ku at *
      generalize k v = kv at *
      clear e1 HAL HLNK
      go_region_held3 (fun w' => w'.cell? ⟨w.heap.size, 0, none⟩ = some (.slice (some ⟨bA, oA, none⟩) m c) ∧ w'.cell? ⟨w.heap.size + 1, 0, none⟩ = some (.slice (some ⟨bC, oC, none⟩) m cc) ∧ w'.cell? ⟨bA, oA + u, none⟩ = some (.slice ua un uc) ∧ w'.cell? ⟨bA, oA + v, none⟩ = some (.slice va vn vc) ∧ w'.cell? ⟨bC, oC + u, none⟩ = some (.int .i64 ku) ∧ w'.cell? ⟨bC, oC + v, none⟩ = some (.int .i64 kv) ∧ Keeps w0 w') (first | exact ⟨d0, d1, hcU, hcV, hcCu, hcCv, Keeps.drew1 _⟩) (fail)
      go_wp2
      go_ret
      exact ⟨ret_bool HV.out, HKA.out.step (Keeps.drew1 _)⟩
  · have hkn : ((k u : Int) != (k v : Int)) = true := by simp; omega
    have HV : Hid (false = alikeB L (portT X) k u v) := Lib.hid (by rw [HAL.out]; simp [e1])
    generalize k u = ku at *
    generalize k v = kv at *
    clear e1 HAL HLNK
    go_region
    all_goals
      go_wp2
      go_ret
      exact ⟨ret_bool HV.out, HKA.out.step (Keeps.drew1 _)⟩
end
end Go.Proofs.Ytdjilgbcpdlkfaa
