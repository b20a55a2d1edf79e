/-
  Plain laws on classes for the drawn statements: after all rounds all classes are of one size. Condition: a valid net.
-/
import Derived.Test.YtdjilgbcpdlkfaaSettle
import Derived.Test.YtdjilgbcpdlkfaaNetLaw
import Derived.Test.YtdjilgbcpdlkfaaSRing
namespace Go.Proofs.Ytdjilgbcpdlkfaa
open Go.RowKit

section
variable {m : Nat} {L : Nat → Nat} {X : Nat → Nat → Int} {mm : Nat} {M : Nat → Int}
theorem cls_last (ok : NetOk m L X mm M) (r : Nat) (hr : 6 ≤ r) (v : Nat) (hv : v < m) : clsF L (portT X) M r v = clsF L (portT X) M 6 v := by
  have h1 := ok.lo
  have h6 := ok.hi
  have hl := settle_lt (L := L) (T := portT X) (M := M) h1
  rw [settle_stays ok.node h1 r (by omega) v hv, settle_stays ok.node h1 6 (by omega) v hv]
theorem sizes_same (ok : NetOk m L X mm M) (v : Nat) (hv : v < m) (h : 0 < cntB (fun x => clsF L (portT X) M 6 x == v) m) :
    cntB (fun x => clsF L (portT X) M 6 x == v) m = cntB (fun x => clsF L (portT X) M 6 x == 0) m := by
  obtain ⟨y, hy, e⟩ := (cntB_pos _ _).1 h
  have e : clsF L (portT X) M 6 y = v := by simpa using e
  have ev : clsF L (portT X) M 6 v = v := by rw [← e]; exact cls_cls 6 y
  have e0 : clsF L (portT X) M 6 0 = 0 := by have := cls_le (L := L) (T := portT X) (M := M) 6 0; omega
  obtain ⟨d, hd⟩ := Int.eq_ofNat_of_zero_le (ok.reach v hv)
  have := size_all (M := M) ok.node ok.back 6 (fun x hx => (cls_last ok 7 (by omega) x hx).symm) d v hv hd
  rw [ev, e0] at this
  exact this
theorem cls_list {s : Int} (h : netB m L X mm M = true) (k : Nat) (hk : k ≤ 6) (e : s = k) : clsL m L X mm M s = il m (fun v => (clsF L (portT X) M k v : Nat)) := by
  subst e
  unfold clsL
  rw [h, inB_mk (show (0 : Int) ≤ (k : Int) by omega) (by omega)]
  rfl
theorem settle_true (ok : NetOk m L X mm M) (v : Nat) (hv : v < m) : clsF L (portT X) M (settleF L (portT X) M m) v = clsF L (portT X) M 6 v := by
  have h1 := ok.lo
  have h6 := ok.hi
  have hl := settle_lt (L := L) (T := portT X) (M := M) h1
  exact (settle_stays ok.node h1 6 (by omega) v hv).symm
theorem settle_differs (ok : NetOk m L X mm M) (k : Nat) (h : settleF L (portT X) M m = k + 1) : ∃ v, v < m ∧ clsF L (portT X) M k v ≠ clsF L (portT X) M 6 v := by
  have h2 := settle_before (L := L) (T := portT X) (M := M) (m := m) (k := k) (by omega)
  obtain ⟨v, hv, hne⟩ := (kinds_lt k m).1 h2
  refine ⟨v, hv, fun e => hne ?_⟩
  have := settle_true ok v hv
  rw [h] at this
  rw [this]; exact e
/-- Different marks: each node looks like itself alone. -/
theorem cls_apart (v : Nat) (h : ∀ u, u < v → M u ≠ M v) (r : Nat) : clsF L (portT X) M r v = v := by
  by_cases e : clsF L (portT X) M r v = v
  · exact e
  · have hl := cls_le (L := L) (T := portT X) (M := M) r v
    have h1 := cls_cls (L := L) (T := portT X) (M := M) r v
    have h0 := cls_finer' (L := L) (T := portT X) (M := M) 0 (clsF L (portT X) M r v) v r (by rw [Nat.zero_add]; exact h1)
    rw [cls_eq] at h0
    have hm : M (clsF L (portT X) M r v) = M v := by simpa [relF, marksB] using h0
    exact absurd hm (h _ (by omega))
end
/-- A ring with the same marks is not electable. -/
theorem ring_elect (m : Nat) (h3 : 3 ≤ m) (h6 : m ≤ 6) : electB m (fun _ => 2) (ringX m) m (fun _ => 0) = false := by
  unfold electB
  have : anyB (fun v => !(clsF (fun _ => 2) (portT (ringX m)) (fun _ => 0) 6 v == v)) m = true := by
    rw [anyB_iff]
    exact ⟨1, by omega, by rw [ring_cls m 0 h3 h6 6 1 (by omega)]; rfl⟩
  rw [this]
  simp
theorem ringOk_zero (m : Nat) : ringOkB m (fun _ => 0) = inB m 3 6 := by
  unfold ringOkB
  have : anyB (fun _ => !inB 0 0 20) m = false := (anyB_false _ _).2 fun _ _ => by decide
  rw [this]
  simp
theorem not_any (p : Nat → Bool) (n : Nat) : (!anyB p (n + 1)) = (!anyB p n && !p n) := by
  show (!(anyB p n || p n)) = _
  rw [Bool.not_or]
end Go.Proofs.Ytdjilgbcpdlkfaa
