/-
  The contracts of classes of the program: leastOf, alike, classes. Condition: a valid net.
-/
import Derived.Test.YtdjilgbcpdlkfaaWidth
import Derived.StillTailTactics
namespace Go.Proofs.Ytdjilgbcpdlkfaa
open Go.RowKit

set_option maxRecDepth 100000 in
set_option maxHeartbeats 4000000 in
theorem leastOf_any (f : Nat) (cap : Array Value) (m : Nat) (R : Nat → Nat → Bool) (w : World) (hm : m ≤ 6) (hR : ∀ v, v < m → R v v = true)
  (hf : ∀ (args : Array Value) (w : World), (callFunc f args).run Try.prog w = .ok (.enter f args) w)
  (hcl : ∀ (u v : Nat) (w' : World), u < m → v < m → Keeps w w' → Calls Try.prog f (#[.int .i64 u, .int .i64 v] ++ cap) w' fun e w'' => e = .returned (.bool (R u v)) ∧ Keeps w' w'') :
    Calls Try.prog 77 #[.int .i64 m, .func (.func f) #[] cap] w (GiveInts m (fun v => (repF R v : Nat)) w) := by
  have HC := Lib.hid hcl
  have HR := Lib.hid hR
  clear hcl hR
  have hmk := make_ints m (by omega)
  go_enter Try.func77, Try.ntmps77
  go_wp2_with fail
  go_loopw [11] (fun i wr => ∃ v : Nat, v ≤ m ∧ i = .int .i64 v ∧ Hid (OwnInts wr w.heap.size (some ⟨w.heap.size, 0, none⟩) m m (il m (fun x => if x < v then (repF R x : Nat) else 0))) ∧ Keeps w wr) (fun i _ => m - (intOf i).toNat)
  case atStart =>
    refine ⟨0, by omega, rfl, Lib.hid ?_, Keeps.alloc _ _⟩
    rw [il_congr m _ (fun _ => 0) (fun i _ => by simp), ← il_zero]
    exact OwnInts.make _ _ _ (Nat.le_refl _) (by omega)
  case round =>
    obtain ⟨v, hv, rfl, HO, hK⟩ := hrel
    by_cases hlt : v < m
    · have hvi : (v : Int) < m := by omega
      have hc := HO.out.cell v hlt
      rw [il_getD _ _ _ hlt] at hc
      have hfz := HO.out.frozen v
      have HST : Hid (OwnInts (wr.setCell ⟨w.heap.size, v, none⟩ (.int .i64 0)) w.heap.size (some ⟨w.heap.size, 0, none⟩) m m (il m (fun x => if x < v then (repF R x : Nat) else if x = v then ((0 : Nat) : Int) else 0))) := Lib.hid (by
        have h := HO.out.set v 0
        rw [il_set] at h
        rw [il_congr m _ (fun x => if x = v then (0 : Int) else if x < v then (repF R x : Nat) else 0) (fun x _ => by
          by_cases e : x = v
          · rw [if_pos e, if_neg (by omega), if_pos e]; rfl
          · by_cases e2 : x < v
            · rw [if_pos e2, if_neg e, if_pos e2]
            · rw [if_neg e2, if_neg e, if_neg e, if_neg e2])]
        exact h)
      have HK2 : Hid (Keeps w (wr.setCell ⟨w.heap.size, v, none⟩ (.int .i64 0))) := Lib.hid (Below.setCell hK (Nat.le_refl _) _)
      have HLE := Lib.hid (rep_le R v)
      have HAT : Hid (∀ q, q ≤ v → (∀ j, j < q → R j v = false) → R q v = true → repF R v = q) := Lib.hid (fun q hq hb ha => leastN_eq (fun u => R u v) v q hq hb (fun _ => ha))
      clear hK
      go_wp2_with fail
      go_loopg [] v (fun k wi => ∃ q : Nat, Hid (k = v - q) ∧ q ≤ v ∧ Hid (∀ j, j < q → R j v = false) ∧ Hid (OwnInts wi w.heap.size (some ⟨w.heap.size, 0, none⟩) m m (il m (fun x => if x < v then (repF R x : Nat) else if x = v then (q : Int) else 0))) ∧ Keeps w wi)
      case atStart => exact ⟨0, Lib.hid (by omega), by omega, Lib.hid (fun j hj => absurd hj (Nat.not_lt_zero _)), HST, HK2.out⟩
      case round =>
        clear HST HK2 hc hfz HO
        obtain ⟨q, HQK, hq, HB, HO, hK⟩ := hrel
        have hqm : q < m := by omega
        have hc := HO.out.cell v hlt
        rw [il_getD _ _ _ hlt, if_neg (by omega), if_pos rfl] at hc
        have CC := Lib.hid (HC.out q v wr hqm hlt hK)
        cases e1 : R q v
        · have hqv : q < v := by
            by_cases e : q = v
            · rw [e, HR.out v hlt] at e1; cases e1
            · omega
          have E1 := Lib.hid e1
          clear e1
          go_wp2_with fail
          refine CC.out.mono ?_
          rintro e w1 ⟨rfl, hk1⟩
          rw [E1.out]
          have HO1 := Lib.hid (HO.out.keeps hk1)
          have hc1 := HO1.out.cell v hlt
          rw [il_getD _ _ _ hlt, if_neg (by omega), if_pos rfl] at hc1
          have hf1 := HO1.out.frozen v
          have hK1 := hK.step hk1
          have HST : Hid (OwnInts (w1.setCell ⟨w.heap.size, v, none⟩ (.int .i64 ((q : Int) + 1))) w.heap.size (some ⟨w.heap.size, 0, none⟩) m m (il m (fun x => if x < v then (repF R x : Nat) else if x = v then ((q + 1 : Nat) : Int) else 0))) := Lib.hid (by
            have h := HO1.out.set v ((q : Int) + 1)
            rw [il_set] at h
            rw [il_congr m _ (fun x => if x = v then ((q : Int) + 1) else if x < v then (repF R x : Nat) else if x = v then (q : Int) else 0) (fun x _ => by
              by_cases e : x = v
              · rw [if_pos e, if_neg (by omega), if_pos e]; omega
              · by_cases e2 : x < v
                · rw [if_pos e2, if_neg e, if_pos e2]
                · rw [if_neg e2, if_neg e, if_neg e, if_neg e2, if_neg e])]
            exact h)
          clear hc hk1
          go_wp2
          go_roundg (v - (q + 1))
          case measure => have := HQK.out; omega
          case rel =>
            refine ⟨q + 1, Lib.hid rfl, by omega, Lib.hid (fun j hj => ?_), HST, Below.setCell hK1 (Nat.le_refl _) _⟩
            by_cases e : j = q
            · rw [e]; exact E1.out
            · exact HB.out j (by omega)
        · have E1 := Lib.hid e1
          have HREP := Lib.hid (HAT.out q hq HB.out e1)
          clear e1
          go_wp2_with fail
          refine CC.out.mono ?_
          rintro e w1 ⟨rfl, hk1⟩
          rw [E1.out]
          have HO1 : Hid (OwnInts w1 w.heap.size (some ⟨w.heap.size, 0, none⟩) m m (il m (fun x => if x < v + 1 then (repF R x : Nat) else 0))) := Lib.hid (by
            have h := HO.out.keeps hk1
            rw [il_congr m _ (fun x => if x < v then (repF R x : Nat) else if x = v then (q : Int) else 0) (fun x _ => by
              by_cases e : x = v
              · rw [if_pos (by omega), if_neg (by omega), if_pos e, e, HREP.out]
              · by_cases e2 : x < v
                · rw [if_pos (by omega), if_pos e2]
                · rw [if_neg (by omega), if_neg e2, if_neg e])]
            exact h)
          go_wp2
          go_roundw
          case rel => exact ⟨v + 1, by omega, by go_num, HO1, hK.step hk1⟩
          case measure => simp [intOf]; omega
    · obtain rfl : v = m := by omega
      have HFIN : Hid (OwnInts wr w.heap.size (some ⟨w.heap.size, 0, none⟩) v v (il v (fun x => (repF R x : Nat)))) := Lib.hid (by
        rw [il_congr v _ (fun x => if x < v then ((repF R x : Nat) : Int) else 0) (fun x hx => by rw [if_pos hx])]
        exact HO.out)
      go_wp2
      go_ret
      exact ⟨_, _, rfl, HFIN.out, hK⟩
end Go.Proofs.Ytdjilgbcpdlkfaa
