/-
  Runs: stops as triples of ints in a slice, and the contract of stopOf. Condition: lengths at most 2^40.
-/
import Derived.Test.YtepgogaoppdllaaOwn
namespace Go.Proofs.Ytepgogaoppdllaa
open Go.RowKit

/-- A slice of m stops holds st. -/
def Stops (w : World) (A : Option Addr) (m : Nat) (st : Nat → Int × Int × Int) : Prop :=
  ∀ i, i < m → ∃ d off, A = some ⟨d, off, none⟩ ∧ w.cell? ⟨d, off + i * 3, none⟩ = some (.int .i64 (st i).1) ∧ w.cell? ⟨d, off + i * 3 + 1, none⟩ = some (.int .i64 (st i).2.1) ∧ w.cell? ⟨d, off + i * 3 + 2, none⟩ = some (.int .i64 (st i).2.2)
theorem Stops.keeps {w w' : World} {A : Option Addr} {m : Nat} {st : Nat → Int × Int × Int} (h : Stops w A m st) (k : Keeps w w') : Stops w' A m st := fun i hi => by
  obtain ⟨d, off, e, h1, h2, h3⟩ := h i hi
  exact ⟨d, off, e, cell_keeps k h1, cell_keeps k h2, cell_keeps k h3⟩
/-- The stop of p among r of them from the k-th one. -/
def stopG (st : Nat → Int × Int × Int) (p : Int) : Nat → Nat → Int × Int × Int
  | _, 0 => (p, 5, 0)
  | k, r + 1 => if (st k).1 == p then st k else stopG st p (k + 1) r
theorem stopG_end (st : Nat → Int × Int × Int) (p : Int) (m k : Nat) (h : k < m) : stopG st p k (m - k) = if (st k).1 == p then st k else stopG st p (k + 1) (m - (k + 1)) := by
  obtain ⟨r, hr⟩ : ∃ r, m - k = r + 1 := ⟨m - k - 1, by omega⟩
  rw [hr, show m - (k + 1) = r by omega, stopG]
def stopF (st : Nat → Int × Int × Int) (m : Nat) (p : Int) : Int × Int × Int := stopG st p 0 m
def trip (t : Int × Int × Int) : Value := .agg #[.int .i64 t.1, .int .i64 t.2.1, .int .i64 t.2.2]

set_option maxHeartbeats 1000000 in
theorem stopOf_any (I S : Option Addr) (n ci m cs : Nat) (st : Nat → Int × Int × Int) (p : Int) (w : World) (hm : m ≤ 1099511627776) (hS : Stops w S m st) :
    Calls Try.prog 74 #[.agg #[.slice I n ci, .slice S m cs], .int .i64 p] w fun e w' => e = .returned (trip (stopF st m p)) ∧ Keeps w w' := by
  have HS := Lib.hid hS
  clear hS
  go_enter Try.func74, Try.ntmps74
  go_wp2
  go_loopw [10] (fun i wr => ∃ k : Nat, k ≤ m ∧ i = .int .i64 k ∧ stopG st p k (m - k) = stopF st m p ∧ Blk wr (w.heap.size + 1) 65 #[.int .i64 0, .int .i64 0, .int .i64 0] ∧ Keeps w wr) (fun i _ => m - (intOf i).toNat)
  case atStart => exact ⟨0, by omega, rfl, rfl, blk_at (by simp) (Blk.new _ _ _), (Keeps.alloc _ _).step (Keeps.alloc _ _)⟩
  case round =>
    obtain ⟨k, hk, rfl, hG, hB, hK⟩ := hrel
    have HG := Lib.hid hG
    have b0 : wr.cell? ⟨w.heap.size + 1, 0, none⟩ = some (.int .i64 0) := hB.cell 0
    have b1 : wr.cell? ⟨w.heap.size + 1, 1, none⟩ = some (.int .i64 0) := hB.cell 1
    have b2 : wr.cell? ⟨w.heap.size + 1, 2, none⟩ = some (.int .i64 0) := hB.cell 2
    have f0 : wr.frozen? ⟨w.heap.size + 1, 0, none⟩ = false := hB.frozen 0
    have f1 : wr.frozen? ⟨w.heap.size + 1, 1, none⟩ = false := hB.frozen 1
    have f2 : wr.frozen? ⟨w.heap.size + 1, 2, none⟩ = false := hB.frozen 2
    have hlb := hB.lt
    have HB := Lib.hid hB
    clear hG hB
    by_cases hlt : k < m
    · obtain ⟨d, off, rfl, h0, h1, h2⟩ := HS.out.keeps hK k hlt
      have HE := Lib.hid (stopG_end st p m k hlt)
      cases hp : ((st k).1 == p)
      · have HP := Lib.hid hp
        go_wp2
        go_roundw
        case rel => exact ⟨k + 1, by omega, by go_num, by rw [← HG.out, HE.out, HP.out]; rfl, HB.out.keeps (Keeps.alloc _ _), hK.step (Keeps.alloc _ _)⟩
        case measure => simp [intOf]; omega
      · have HP := Lib.hid hp
        have HT : Hid (stopF st m p = st k) := Lib.hid (by rw [← HG.out, HE.out, HP.out]; rfl)
        go_wp2
        refine bodyPost_ret (v := trip (st k)) (by simp [results, Try.results74, go_sem, trip, b0, b1, b2, hlb]) rfl ⟨by rw [HT.out], Keeps.step (((hK.setCell (Nat.le_succ _) _).setCell (Nat.le_succ _) _).setCell (Nat.le_succ _) _) (Keeps.alloc _ _)⟩
    · have : k = m := by omega
      subst this
      have HT : Hid (stopF st k p = (p, 5, 0)) := Lib.hid (by rw [← HG.out, Nat.sub_self]; rfl)
      go_wp2
      refine bodyPost_ret (v := trip (p, 5, 0)) (by simp [results, Try.results74, go_sem, trip, b0, b1, b2]) rfl ⟨by rw [HT.out], ((hK.setCell (Nat.le_succ _) _).setCell (Nat.le_succ _) _).setCell (Nat.le_succ _) _⟩
end Go.Proofs.Ytepgogaoppdllaa
