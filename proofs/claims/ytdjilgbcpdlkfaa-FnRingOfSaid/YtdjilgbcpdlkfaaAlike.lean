/-
  The contracts of alike and classes of the program. Condition: a valid net.
-/
import Derived.Test.YtdjilgbcpdlkfaaCls
import Derived.Test.YtdjilgbcpdlkfaaClass
import Derived.Test.YtdjilgbcpdlkfaaStep
namespace Go.Proofs.Ytdjilgbcpdlkfaa
open Go.RowKit

theorem back_eq {m : Nat} {L : Nat → Nat} {X : Nat → Nat → Int} {mm : Nat} {M : Nat → Int} (ok : NetOk m L X mm M) {v p : Nat} (hv : v < m) (hp : p < L v) :
    idxB (fun q => X (portT X v p) q == (v : Int)) (L (portT X v p)) = backF L (portT X) v p := by
  unfold backF idxB
  have hu := ok.node v p hv hp
  have key : ∀ l : List Nat, (∀ q, q ∈ l → q < L (portT X v p)) → l.find? (fun q => X (portT X v p) q == (v : Int)) = l.find? (fun q => portT X (portT X v p) q == v) := by
    intro l
    induction l with
    | nil => intro _; rfl
    | cons a l ih =>
      intro h
      have e : (X (portT X v p) a == (v : Int)) = (portT X (portT X v p) a == v) := by
        rw [ok.port _ a hu (h a (by simp)), Bool.eq_iff_iff]
        simp only [beq_iff_eq]
        omega
      simp only [List.find?_cons, e, ih (fun q hq => h q (by simp [hq]))]
  rw [key _ (fun q hq => by simpa using hq)]
section
variable {A B C : Option Addr} {m c mm d cc : Nat} {r : Nat → Option Addr × Nat × Nat} {L : Nat → Nat} {X : Nat → Nat → Int} {M : Nat → Int} {k : Nat → Nat}
set_option maxRecDepth 100000 in
set_option maxHeartbeats 4000000 in
theorem alike1_any (bn bc v p : Nat) (w : World) (hN : NetAt w A m r B mm L X M) (ok : NetOk m L X mm M) (hv : v < m) (hp : p < L v)
  (c0 : w.cell? ⟨bn, 0, none⟩ = some (.slice A m c)) (c1 : w.cell? ⟨bc, 0, none⟩ = some (.slice C m cc)) (hC : Ints w C m (fun x => (k x : Nat))) :
    Calls Try.prog 88 #[.int .i64 v, .int .i64 p, .pointer (some ⟨bn, 0, none⟩), .pointer (some ⟨bc, 0, none⟩)] w fun e w' => e = .returned (.agg #[.int .i64 (k (portT X v p) : Nat), .int .i64 (backF L (portT X) v p)]) ∧ Keeps w w' := by
  have hu := ok.node v p hv hp
  have hX := ok.port v p hv hp
  have HBK := Lib.hid (back_eq ok hv hp)
  have hmb := hN.mb
  obtain ⟨⟨bA, oA, rfl, hcV⟩, hrowV⟩ := hN.rows v hv
  have hlv := hN.len v hv
  have hcapv := hN.cap v hv
  rw [← hlv] at hp
  obtain ⟨bR, oR, eR, hcX⟩ := hrowV p hp
  rw [hX] at hcX
  obtain ⟨⟨_, _, eA, hcU⟩, hrowU⟩ := hN.rows (portT X v p) hu
  cases eA
  have hlu := hN.len (portT X v p) hu
  have hcapu := hN.cap (portT X v p) hu
  obtain ⟨bC, oC, rfl, hcC⟩ := hC (portT X v p) hu
  generalize backF L (portT X) v p = bk at *
  generalize portT X v p = u at *
  obtain ⟨ua, un, uc, hru⟩ : ∃ ua un uc, r u = (ua, un, uc) := ⟨_, _, _, rfl⟩
  obtain ⟨va, vn, vc, hrv⟩ : ∃ va vn vc, r v = (va, vn, vc) := ⟨_, _, _, rfl⟩
  rw [hru] at hcU hrowU hlu hcapu
  rw [hrv] at hcV hp eR hcapv
  dsimp only at hcU hlu hcV hp eR hcapu hcapv hcC
  subst eR
  rw [← hlu] at HBK
  have CI := Lib.hid (fun w' (hk : Keeps w w') => slIndex_any ua un uc (X u) v w' (by omega) (hrowU.keeps hk))
  rw [show (fun q => (v : Int) == X u q) = fun q => X u q == (v : Int) from funext fun q => by rw [Bool.eq_iff_iff]; simp only [beq_iff_eq]; exact eq_comm, HBK.out] at CI
  generalize k u = ku at *
  have hvi : (v : Int) < m := by omega
  have hui : (u : Int) < m := by omega
  have hpi : (p : Int) < vn := by omega
  have hb1 : bn < w.heap.size := World.block_lt_of_cell? _ _ c0
  have hb2 : bc < w.heap.size := World.block_lt_of_cell? _ _ c1
  have kA := Keeps.alloc w (.cells #[.int .i64 0, .int .i64 0] 83)
  have hB := Blk.new w #[.int .i64 0, .int .i64 0] 83
  have e0 : (w.alloc (.cells #[.int .i64 0, .int .i64 0] 83)).cell? ⟨w.heap.size, 0, none⟩ = some (.int .i64 0) := hB.cell 0
  have e1 : (w.alloc (.cells #[.int .i64 0, .int .i64 0] 83)).cell? ⟨w.heap.size, 1, none⟩ = some (.int .i64 0) := hB.cell 1
  have f0 := hB.frozen 0
  have f1 := hB.frozen 1
  have hq : Hid (∀ a b : Value, ((w.alloc (.cells #[.int .i64 0, .int .i64 0] 83)).setCell ⟨w.heap.size, 0, none⟩ a).cell? ⟨w.heap.size, 0, none⟩ = some a ∧ (((w.alloc (.cells #[.int .i64 0, .int .i64 0] 83)).setCell ⟨w.heap.size, 0, none⟩ a).setCell ⟨w.heap.size, 1, none⟩ b).cell? ⟨w.heap.size, 1, none⟩ = some b) := Lib.hid (fun a b => ⟨(hB.set 0 a).cell 0, ((hB.set 0 a).set 1 b).cell 1⟩)
  have hfin : Hid (∀ a b : Value, Keeps w (((w.alloc (.cells #[.int .i64 0, .int .i64 0] 83)).setCell ⟨w.heap.size, 0, none⟩ a).setCell ⟨w.heap.size, 1, none⟩ b).drew) := Lib.hid (fun a b => Keeps.step (Below.setCell (Below.setCell kA (Nat.le_refl _) _) (Nat.le_refl _) _) (Keeps.drew1 _))
  have d0 := cell_keeps kA c0
  have d1 := cell_keeps kA c1
  have dV := cell_keeps kA hcV
  have dX := cell_keeps kA hcX
  have dU := cell_keeps kA hcU
  have dC := cell_keeps kA hcC
  clear hB hN hrowU hrowV hru hrv hlv hlu hX HBK hC ok c0 c1 hcV hcX hcU hcC
  generalize hw0 : w.alloc (.cells #[.int .i64 0, .int .i64 0] 83) = w0 at *
  generalize hbx : w.heap.size = bx at *
  have HW0 := Lib.hid hw0
  have HK0 := Lib.hid kA
  have HBX := Lib.hid hbx
  clear hw0 hbx
  go_enter Try.func88, Try.ntmps88
  go_upto_region 1 with fail
  rw [HBX.out, HW0.out]
  go_wp2_with fail
  go_region_law (first | (refine step_go 74 #[.tmp 24, .tmp 25] #[23, 3] rfl rfl (fun _ _ => rfl) (by simp [Act.eval, Act.put]) (CI.out w0.drew (HK0.out.step (Keeps.drew1 _))) ?_; rintro e w4 ⟨rfl, rfl⟩; refine ⟨_, rfl, ?_⟩) | fail)
  all_goals
    go_wp2
    refine bodyPost_ret (v := .agg #[.int .i64 ku, .int .i64 bk]) (by simp [results, Try.results88, go_sem, (hq.out (.int .i64 ku) (.int .i64 bk)).1, (hq.out (.int .i64 ku) (.int .i64 bk)).2]) rfl ⟨rfl, hfin.out _ _⟩
end
end Go.Proofs.Ytdjilgbcpdlkfaa
