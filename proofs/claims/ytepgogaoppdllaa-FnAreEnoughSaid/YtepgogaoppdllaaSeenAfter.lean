/-
  The contracts of SeenAfter, the program's and the reference's. Condition: lengths at most 2^40.
-/
import Derived.Test.YtepgogaoppdllaaSpecSeen
import Derived.Lib.SliceRun
namespace Go.Proofs.Ytepgogaoppdllaa
open Go.RowKit

/-- What SeenAfter answers. -/
def seenL (n : Nat) (x : Nat → Int) (m : Nat) (st : Nat → Int × Int × Int) (r : Int) : List Int := if okB n x m st r then fl n (aft n st m r.toNat) else []
/-- An answer that is the call's own. -/
abbrev Ans (w : World) (L : List Int) (e : Ending) (w' : World) : Prop := ∃ A c, e = .returned (.slice A L.length c) ∧ OwnInts w' w.heap.size A L.length c L ∧ Keeps w w'
theorem Ans.of {w0 w : World} {L : List Int} {e : Ending} {w' : World} (h : Ans w L e w') (k : Keeps w0 w) : Ans w0 L e w' := by
  obtain ⟨A, c, h1, h2, h3⟩ := h
  exact ⟨A, c, h1, h2.mono k.size, k.step h3⟩
theorem Ans.nil (w w' : World) (k : Keeps w w') : Ans w [] (.returned (.slice none 0 0)) w' := ⟨none, 0, rfl, OwnInts.nil _ _, k⟩
theorem Ans.mk {w w' : World} {A : Option Addr} {n c : Nat} {L : List Int} (h : OwnInts w' w.heap.size A n c L) (k : Keeps w w') : Ans w L (.returned (.slice A n c)) w' := by
  have := h.len
  subst this
  exact ⟨A, c, rfl, h, k⟩

theorem okB_true {n m : Nat} {x : Nat → Int} {st : Nat → Int × Int × Int} {r : Int} (h : okB n x m st r = true) : runB n x m st = true ∧ 0 ≤ r ∧ r ≤ 4 := by
  unfold okB at h
  rw [Bool.and_eq_true] at h
  exact ⟨h.1, inB_true h.2⟩

set_option maxHeartbeats 1000000 in
theorem clone_any (b off n c : Nat) (z : Nat → Int) (w : World) (h1 : 1 ≤ n) (hn : n ≤ 1099511627776) (hz : ∀ i, i < n → w.cell? ⟨b, off + i, none⟩ = some (.int .i64 (z i))) :
    Calls Try.prog 46 #[.slice (some ⟨b, off, none⟩) n c] w (Ans w ((List.range n).map z)) := by
  have HZ := Lib.hid hz
  clear hz
  have q : ∀ (w : World) (a : Option Addr) (n c n' c' : Nat), (binOp .eql 23 (.slice a n c) (.slice none n' c')).run Try.prog w = .ok (.bool a.isNone) w := fun w a n c n' c' => Lib.run_eql_slice_nil w _ _ a n c n' c' Try.underlying23
  go_enter Try.func46, Try.ntmps46
  go_wp2_with (first | (at_builtin; refine wp_spread_int rfl _ _ rfl w.heap.size (some ⟨w.heap.size, 0, none⟩) 0 0 [] _ rfl (OwnInts.made _ _ (Nat.le_refl _)) b off n c z rfl (fun i hi => cell_keeps (Keeps.alloc _ _) (HZ.out i hi)) (by omega) (by omega) (by simp) ?_; intro g2 c2 w6 hO6 hg6))
  have hO6 : OwnInts w6 w.heap.size (some ⟨g2, 0, none⟩) n c2 ((List.range n).map z) := by simpa using hO6
  go_wp2
  go_ret
  exact Ans.mk hO6 ((Keeps.alloc w _).grown (OwnInts.made w w.heap.size (Nat.le_refl _)) (Nat.le_refl _) hg6)
set_option maxRecDepth 100000 in
set_option maxHeartbeats 2000000 in
theorem seenAfter_any (I S : Option Addr) (n ci m cs : Nat) (r : Int) (x : Nat → Int) (st : Nat → Int × Int × Int) (w : World) (hn : n ≤ 1099511627776) (hm : m ≤ 1099511627776) (hI : Ints w I n x) (hS : Stops w S m st) :
    Calls Try.prog 14 #[.agg #[.slice I n ci, .slice S m cs], .int .i64 r] w (Ans w (seenL n x m st r)) := by
  have HI := Lib.hid hI
  have HS := Lib.hid hS
  clear hI hS
  cases h1 : okB n x m st r
  · have HV : Hid (seenL n x m st r = []) := Lib.hid (by unfold seenL; rw [h1]; rfl)
    have H1 := Lib.hid h1
    clear h1
    go_enter Try.func14, Try.ntmps14
    go_wp2_with fail
    refine (roundsOk_any I S n ci m cs x st r _ hn hm (HI.out.keeps (Keeps.alloc _ _)) (HS.out.keeps (Keeps.alloc _ _))).mono ?_
    rintro e w1 ⟨rfl, hk1⟩
    rw [H1.out]
    go_wp2
    go_ret
    rw [HV.out]
    exact Ans.nil _ _ ((Keeps.alloc _ _).step hk1)
  · obtain ⟨hrun, hr0, hr4⟩ := okB_true h1
    obtain ⟨R, rfl⟩ := Int.eq_ofNat_of_zero_le hr0
    have hR : R ≤ 4 := by omega
    have HV : Hid (seenL n x m st R = (List.range n).map (fun i => ((aft n st m R i : Nat) : Int))) := Lib.hid (by unfold seenL; rw [h1]; rfl)
    obtain ⟨hn1, hn4⟩ := runB_n hrun
    have H1 := Lib.hid h1
    have HRUN := Lib.hid hrun
    clear h1 hrun
    go_enter Try.func14, Try.ntmps14
    go_wp2_with fail
    refine (roundsOk_any I S n ci m cs x st R _ hn hm (HI.out.keeps (Keeps.alloc _ _)) (HS.out.keeps (Keeps.alloc _ _))).mono ?_
    rintro e w1 ⟨rfl, hk1⟩
    rw [H1.out]
    have hK1 := (Keeps.alloc w (.cells #[.slice I n ci, .slice S m cs] 26)).step hk1
    have hB1 := (Blk.new w #[.slice I n ci, .slice S m cs] 26).keeps hk1
    have b0 : w1.cell? ⟨w.heap.size, 0, none⟩ = some (.slice I n ci) := hB1.cell 0
    have b1 : w1.cell? ⟨w.heap.size, 1, none⟩ = some (.slice S m cs) := hB1.cell 1
    go_wp2_with fail
    refine (after_any I S n ci m cs R x st _ hm hR (HI.out.keeps hK1) (HS.out.keeps hK1) HRUN.out).mono ?_
    rintro e w2 ⟨rfl, hk2⟩
    have hK2 := hK1.step hk2
    have c0 := cell_keeps hk2 b0
    have HA := Lib.hid (fun i (hi : i < n) => arr_get (upTo n (aft n st m R) (fun _ => 0)) i (by omega))
    have HU := Lib.hid (fun i (hi : i < n) => show upTo n (aft n st m R) (fun _ => 0) i = aft n st m R i by unfold upTo; rw [if_pos hi])
    rw [show Value.agg (arr (upTo n (aft n st m R) (fun _ => 0))) = .agg #[.int .i64 (upTo n (aft n st m R) (fun _ => 0) 0 : Nat), .int .i64 (upTo n (aft n st m R) (fun _ => 0) 1 : Nat), .int .i64 (upTo n (aft n st m R) (fun _ => 0) 2 : Nat), .int .i64 (upTo n (aft n st m R) (fun _ => 0) 3 : Nat)] from rfl]
    have hn4' : (n : Int) ≤ 4 := by omega
    have hlb := (hB1.keeps hk2).lt
    go_wp2_with fail
    refine (clone_any w2.heap.size 0 n n (fun i => ((aft n st m R i : Nat) : Int)) _ hn1 hn (fun i hi => ?_)).mono ?_
    · rw [Nat.zero_add, ← HU.out i hi]
      exact ((Blk.new w2 (arr (upTo n (aft n st m R) (fun _ => 0))) 57).cell i).trans (HA.out i hi)
    · intro e w3 hA
      obtain ⟨A, c, rfl, hO, hk3⟩ := hA.of ((hK2.step (Keeps.alloc _ _)))
      have hO : OwnInts w3 w.heap.size A n c ((List.range n).map fun i => ((aft n st m R i : Nat) : Int)) := by simpa using hO
      have HO := Lib.hid hO
      clear hO
      go_wp2
      go_ret
      rw [HV.out]
      exact Ans.mk HO.out hk3
set_option maxRecDepth 100000 in
set_option maxHeartbeats 2000000 in
theorem sseenAfter_any (I S : Option Addr) (n ci m cs : Nat) (r : Int) (x : Nat → Int) (st : Nat → Int × Int × Int) (w : World) (hn : n ≤ 1099511627776) (hm : m ≤ 1099511627776) (hI : Ints w I n x) (hS : Stops w S m st) :
    Calls Try.prog 16 #[.agg #[.slice I n ci, .slice S m cs], .int .i64 r] w (Ans w (seenL n x m st r)) := by
  have HI := Lib.hid hI
  have HS := Lib.hid hS
  clear hI hS
  cases h1 : runB n x m st
  · have HV : Hid (seenL n x m st r = []) := Lib.hid (by unfold seenL okB; rw [h1]; rfl)
    have H1 := Lib.hid h1
    clear h1
    go_enter Try.func16, Try.ntmps16
    go_wp2_with fail
    refine (svalidRun_any I S n ci m cs x st _ hn hm (HI.out.keeps (Keeps.alloc _ _)) (HS.out.keeps (Keeps.alloc _ _))).mono ?_
    rintro e w1 ⟨rfl, hk1⟩
    rw [H1.out]
    go_wp2
    go_ret
    rw [HV.out]
    exact Ans.nil _ _ ((Keeps.alloc _ _).step hk1)
  · have H1 := Lib.hid h1
    cases h2 : inB r 0 4
    · have HV : Hid (seenL n x m st r = []) := Lib.hid (by unfold seenL okB; rw [h1, h2]; rfl)
      have H2 := Lib.hid h2
      clear h1 h2
      go_enter Try.func16, Try.ntmps16
      go_wp2_with fail
      refine (svalidRun_any I S n ci m cs x st _ hn hm (HI.out.keeps (Keeps.alloc _ _)) (HS.out.keeps (Keeps.alloc _ _))).mono ?_
      rintro e w1 ⟨rfl, hk1⟩
      rw [H1.out]
      go_wp2_with fail
      refine (inRange_any _ _ _ _).mono ?_
      rintro e w2 ⟨rfl, rfl⟩
      rw [H2.out]
      go_wp2
      go_ret
      rw [HV.out]
      exact Ans.nil _ _ ((Keeps.alloc _ _).step hk1)
    · obtain ⟨hr0, hr4⟩ := inB_true h2
      obtain ⟨R, rfl⟩ := Int.eq_ofNat_of_zero_le hr0
      have hR : R ≤ 4 := by omega
      have HV : Hid (seenL n x m st R = fl n (aft n st m R)) := Lib.hid (by unfold seenL okB; rw [h1, h2]; rfl)
      have H2 := Lib.hid h2
      clear h1 h2
      go_enter Try.func16, Try.ntmps16
      go_wp2_with fail
      refine (svalidRun_any I S n ci m cs x st _ hn hm (HI.out.keeps (Keeps.alloc _ _)) (HS.out.keeps (Keeps.alloc _ _))).mono ?_
      rintro e w1 ⟨rfl, hk1⟩
      rw [H1.out]
      have hK1 := (Keeps.alloc w (.cells #[.slice I n ci, .slice S m cs] 26)).step hk1
      have hB1 := (Blk.new w #[.slice I n ci, .slice S m cs] 26).keeps hk1
      have b0 : w1.cell? ⟨w.heap.size, 0, none⟩ = some (.slice I n ci) := hB1.cell 0
      have b1 : w1.cell? ⟨w.heap.size, 1, none⟩ = some (.slice S m cs) := hB1.cell 1
      go_wp2_with fail
      refine (inRange_any _ _ _ _).mono ?_
      rintro e w2 ⟨rfl, rfl⟩
      rw [H2.out]
      go_wp2_with fail
      refine (sseen_any I S n ci m cs R x st _ hm hR (HS.out.keeps hK1) H1.out).mono ?_
      rintro e w2 ⟨g, c, rfl, hO, hk2⟩
      have HO := Lib.hid (hO.mono hK1.size)
      clear hO
      go_wp2
      go_ret
      rw [HV.out]
      exact Ans.mk HO.out (hK1.step hk2)
end Go.Proofs.Ytepgogaoppdllaa
