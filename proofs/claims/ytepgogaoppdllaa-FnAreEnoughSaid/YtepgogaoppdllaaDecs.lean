/-
  The contracts of decisions and DecisionsAfter, the program's and the reference's. Conditions: lengths at most 2^40; for decisions a valid run, at most four rounds.
-/
import Derived.Test.YtepgogaoppdllaaDec
namespace Go.Proofs.Ytepgogaoppdllaa
open Go.RowKit

theorem blk_ne' {w : World} {lo g n c b : Nat} {l : List Int} {T : TypeId} {cs : Array Value} (h : OwnInts w lo (some ⟨g, 0, none⟩) n c l) (hb : Blk w b T cs) (hT : T ≠ 3) : b ≠ g := fun e => own_other h hb hT g rfl (by rw [e])
set_option maxRecDepth 100000 in
set_option maxHeartbeats 4000000 in
theorem decisions_any (I S : Option Addr) (n ci m cs R : Nat) (x : Nat → Int) (st : Nat → Int × Int × Int) (w : World) (hm : m ≤ 1099511627776) (hR : R ≤ 4) (hI : Ints w I n x) (hS : Stops w S m st) (hok : runB n x m st = true) :
    Calls Try.prog 63 #[.agg #[.slice I n ci, .slice S m cs], .int .i64 R] w (Ans w (il n (dec n x m st R))) := by
  have HI := Lib.hid hI
  have HS := Lib.hid hS
  have HOK := Lib.hid hok
  have HX := Lib.hid (run_in hok)
  obtain ⟨hn1, hn4⟩ := runB_n hok
  clear hS hI hok
  have hfd : ∀ (a b c : Value) (w : World), (Instr.field 65 (.agg #[a, b, c]) 1).run Try.prog w = .ok b w := fun _ _ _ _ => rfl
  go_enter Try.func63, Try.ntmps63
  go_wp2_with fail
  refine (after_any I S n ci m cs R x st _ hm hR (HI.out.keeps (Keeps.alloc _ _)) (HS.out.keeps (Keeps.alloc _ _)) HOK.out).mono ?_
  rintro e w1 ⟨rfl, hk1⟩
  have hK1 := (Keeps.alloc w (.cells #[.slice I n ci, .slice S m cs] 26)).step hk1
  have hB1 := (Blk.new w #[.slice I n ci, .slice S m cs] 26).keeps hk1
  have b0 : w1.cell? ⟨w.heap.size, 0, none⟩ = some (.slice I n ci) := hB1.cell 0
  have hlb := hB1.lt
  have hsz1 := hK1.size
  have hBA : ∀ o, Blk ((w1.alloc (.cells (arr (upTo n (aft n st m R) (fun _ => 0))) 57)).alloc o) w1.heap.size 57 (arr (upTo n (aft n st m R) (fun _ => 0))) := fun o => (Blk.new _ _ _).keeps (Keeps.alloc _ _)
  have HBA := Lib.hid hBA
  clear hBA
  rw [show Value.agg (arr (upTo n (aft n st m R) (fun _ => 0))) = .agg #[.int .i64 (upTo n (aft n st m R) (fun _ => 0) 0 : Nat), .int .i64 (upTo n (aft n st m R) (fun _ => 0) 1 : Nat), .int .i64 (upTo n (aft n st m R) (fun _ => 0) 2 : Nat), .int .i64 (upTo n (aft n st m R) (fun _ => 0) 3 : Nat)] from rfl]
  have hmk := make_ints n (by omega)
  generalize HV : w1.heap.size = V at *
  go_wp2_with fail
  go_loopw [19] (fun i wr => ∃ k : Nat, k ≤ n ∧ i = .int .i64 k ∧ Blk wr w.heap.size 26 #[.slice I n ci, .slice S m cs] ∧ Blk wr V 57 (arr (upTo n (aft n st m R) (fun _ => 0))) ∧ OwnInts wr w.heap.size (some ⟨V + 1, 0, none⟩) n n (il n (fun i => if i < k then dec n x m st R i else 0)) ∧ Keeps w wr) (fun i _ => n - (intOf i).toNat)
  case atStart =>
    refine ⟨0, by omega, rfl, ((hB1.keeps (Keeps.alloc _ _)).keeps (Keeps.alloc _ _)), by rw [← HV]; exact (Blk.new _ _ _).keeps (Keeps.alloc _ _), ?_, (hK1.step (Keeps.alloc _ _)).step (Keeps.alloc _ _)⟩
    rw [il_congr n _ (fun _ => 0) (fun i _ => by simp), ← il_zero]
    exact own_at (by simp [HV]) (OwnInts.make _ _ _ (Nat.le_trans hK1.size (Keeps.alloc _ _).size) (by omega))
  case round =>
    clear hB1 hK1 hk1 b0 hlb hsz1 HBA
    obtain ⟨k, hk, rfl, hB, hV, hO, hK⟩ := hrel
    by_cases hlt : k < n
    · have b0 : wr.cell? ⟨w.heap.size, 0, none⟩ = some (.slice I n ci) := hB.cell 0
      have b1 : wr.cell? ⟨w.heap.size, 1, none⟩ = some (.slice S m cs) := hB.cell 1
      have hbl := hB.lt
      have hob := hO.block
      have hc := hO.cell k hlt
      have hf := hO.frozen k
      have hne1 : w.heap.size ≠ V + 1 := blk_ne' hO hB (by decide)
      have hO1 := hO.set k (-1)
      rw [il_set] at hO1
      have hB1 := hB.set_other ⟨V + 1, k, none⟩ (.int .i64 (-1)) hne1
      have hV1 := hV.set_other ⟨V + 1, k, none⟩ (.int .i64 (-1)) (by simp)
      have hK1 : Keeps w (wr.setCell ⟨V + 1, k, none⟩ (.int .i64 (-1))) := Below.setCell hK (by simpa using hob.1) _
      have HO1 := Lib.hid hO1
      have HB1 := Lib.hid hB1
      have HV1 := Lib.hid hV1
      have HK1 := Lib.hid hK1
      have HNE := Lib.hid hne1
      clear hB hV hO hO1 hB1 hV1 hK1 hob hK
      go_wp2_with fail
      refine (stopOf_any I S n ci m cs st k _ hm (HS.out.keeps HK1.out)).mono ?_
      rintro e w2 ⟨rfl, hk2⟩
      rw [show trip (stopF st m k) = .agg #[.int .i64 (stopF st m k).1, .int .i64 (stopF st m k).2.1, .int .i64 (stopF st m k).2.2] from rfl]
      have HB2 := Lib.hid (HB1.out.keeps hk2)
      have HV2 := Lib.hid (HV1.out.keeps hk2)
      have HO2 := Lib.hid (HO1.out.keeps hk2)
      have HK2 := Lib.hid (HK1.out.step hk2)
      have HD := Lib.hid (show dec n x m st R k = if (stopF st m k).2.1 ≤ (R : Int) then -1 else decI x (aft n st m R k) n from rfl)
      clear HB1 HV1 HO1 HK1 hk2 b0 b1 hc hf
      by_cases hd : (stopF st m k).2.1 ≤ (R : Int)
      · have HD1 := Lib.hid (show dec n x m st R k = -1 by rw [HD.out, if_pos hd])
        go_wp2
        go_roundw
        case rel =>
          refine ⟨k + 1, by omega, by go_num, HB2.out, HV2.out, ?_, HK2.out⟩
          rw [il_congr n _ (fun i => if i = k then -1 else if i < k then dec n x m st R i else 0) (fun i _ => by
            by_cases h1 : i = k
            · subst h1; rw [if_pos (by omega), if_pos rfl, HD1.out]
            · by_cases h2 : i < k
              · rw [if_pos (by omega), if_neg h1, if_pos h2]
              · rw [if_neg (by omega), if_neg h1, if_neg h2])]
          exact HO2.out
        case measure => simp [intOf]; omega
      · have HD1 := Lib.hid (show dec n x m st R k = decI x (aft n st m R k) n by rw [HD.out, if_neg hd])
        have b0 : w2.cell? ⟨w.heap.size, 0, none⟩ = some (.slice I n ci) := HB2.out.cell 0
        go_wp2_with fail
        go_loopw [34] (fun i wr => ∃ q : Nat, q ≤ n ∧ i = .int .i64 q ∧ Blk wr w.heap.size 26 #[.slice I n ci, .slice S m cs] ∧ Blk wr V 57 (arr (upTo n (aft n st m R) (fun _ => 0))) ∧ OwnInts wr w.heap.size (some ⟨V + 1, 0, none⟩) n n (il n (fun i => if i = k then decI x (aft n st m R k) q else if i < k then dec n x m st R i else 0)) ∧ Keeps w wr) (fun i _ => n - (intOf i).toNat)
        case atStart => exact ⟨0, by omega, rfl, HB2.out, HV2.out, HO2.out, HK2.out⟩
        case round =>
          clear HB2 HV2 HO2 HK2 b0
          obtain ⟨q, hq, rfl, hB, hV, hO, hK⟩ := hrel
          by_cases hlq : q < n
          · have hkl : (k : Int) < n := by omega
            have hkl4 : (k : Int) < 4 := by omega
            have hql : (q : Int) < n := by omega
            obtain ⟨d, off, rfl, hcx⟩ := HI.out.keeps hK q hlq
            have hcv := hV.cell k
            rw [arr_get _ _ (show k < 4 by omega), show upTo n (aft n st m R) (fun _ => 0) k = aft n st m R k by unfold upTo; rw [if_pos hlt]] at hcv
            have hlt2 := aft_lt n st m R k hlt
            have hp16 : 2 ^ n ≤ 16 := Nat.le_trans (Nat.pow_le_pow_right (by omega) hn4) (by omega)
            have hbit := testBit_one (aft n st m R k) q (by omega)
            have hob := hO.block
            have hco := hO.cell k hlt
            have hfo := hO.frozen k
            rw [il_getD _ _ _ hlt, if_pos rfl] at hco
            have HDN := Lib.hid (show decI x (aft n st m R k) (q + 1) = if (aft n st m R k).testBit q && (decide (decI x (aft n st m R k) q < 0) || decide (x q < decI x (aft n st m R k) q)) then x q else decI x (aft n st m R k) q from rfl)
            have HNE2 := HNE
            have HSK : Hid (((aft n st m R k).testBit q && (decide (decI x (aft n st m R k) q < 0) || decide (x q < decI x (aft n st m R k) q))) = false → OwnInts wr w.heap.size (some ⟨V + 1, 0, none⟩) n n (il n (fun i => if i = k then decI x (aft n st m R k) (q + 1) else if i < k then dec n x m st R i else 0))) := Lib.hid (fun h => by rw [HDN.out, h]; exact hO)
            have HST : Hid (((aft n st m R k).testBit q && (decide (decI x (aft n st m R k) q < 0) || decide (x q < decI x (aft n st m R k) q))) = true → OwnInts (wr.setCell ⟨V + 1, k, none⟩ (.int .i64 (x q))) w.heap.size (some ⟨V + 1, 0, none⟩) n n (il n (fun i => if i = k then decI x (aft n st m R k) (q + 1) else if i < k then dec n x m st R i else 0))) := Lib.hid (fun h => by
              have := hO.set k (x q)
              rw [il_set] at this
              rw [HDN.out, h]
              rw [il_congr n _ (fun i => if i = k then x q else if i = k then decI x (aft n st m R k) q else if i < k then dec n x m st R i else 0) (fun i _ => by by_cases h1 : i = k <;> simp [h1])]
              exact this)
            have HB := Lib.hid hB
            have HV := Lib.hid hV
            have HK := Lib.hid hK
            have HOB := Lib.hid hob.1
            clear hB hV hO hK HD HD1 HDN hlt2 hp16 hd hob
            generalize decI x (aft n st m R k) q = v at *
            generalize aft n st m R k = sN at *
            cases e1 : sN.testBit q
            · have HS0 := Lib.hid (HSK.out (by rw [e1]; rfl))
              rw [e1] at hbit
              go_wp2
              go_roundw
              case rel => exact ⟨q + 1, by omega, by go_num, HB.out, HV.out, HS0.out, HK.out⟩
              case measure => simp [intOf]; omega
            · rw [e1] at hbit
              by_cases e2 : v < 0
              · have HS0 := Lib.hid (HST.out (by rw [e1]; simp [e2]))
                go_wp2
                go_roundw
                case rel => exact ⟨q + 1, by omega, by go_num, HB.out.set_other _ _ hne1, HV.out.set_other _ _ (by simp), HS0.out, Below.setCell HK.out HOB.out _⟩
                case measure => simp [intOf]; omega
              · by_cases e3 : x q < v
                · have HS0 := Lib.hid (HST.out (by rw [e1]; simp [e3]))
                  go_wp2
                  go_roundw
                  case rel => exact ⟨q + 1, by omega, by go_num, HB.out.set_other _ _ hne1, HV.out.set_other _ _ (by simp), HS0.out, Below.setCell HK.out HOB.out _⟩
                  case measure => simp [intOf]; omega
                · have HS0 := Lib.hid (HSK.out (by rw [e1]; simp; omega))
                  go_wp2
                  go_roundw
                  case rel => exact ⟨q + 1, by omega, by go_num, HB.out, HV.out, HS0.out, HK.out⟩
                  case measure => simp [intOf]; omega
          · obtain rfl : q = n := by omega
            have HB := Lib.hid hB
            have HV := Lib.hid hV
            have HO := Lib.hid hO
            clear hB hV hO
            go_wp2
            go_roundw
            case rel =>
              refine ⟨k + 1, by omega, by go_num, HB.out, HV.out, ?_, hK⟩
              rw [il_congr q _ (fun i => if i = k then decI x (aft q st m R k) q else if i < k then dec q x m st R i else 0) (fun i _ => by
                by_cases h1 : i = k
                · subst h1; rw [if_pos (by omega), if_pos rfl, HD1.out]
                · by_cases h2 : i < k
                  · rw [if_pos (by omega), if_neg h1, if_pos h2]
                  · rw [if_neg (by omega), if_neg h1, if_neg h2])]
              exact HO.out
            case measure => simp [intOf]; omega
    · obtain rfl : k = n := by omega
      have HO := Lib.hid hO
      clear hB hV hO
      go_wp2
      go_ret
      rw [il_congr k (dec k x m st R) (fun i => if i < k then dec k x m st R i else 0) (fun i hi => by rw [if_pos hi])]
      exact Ans.mk HO.out hK
set_option maxRecDepth 100000 in
set_option maxHeartbeats 2000000 in
theorem decisionsAfter_any (I S : Option Addr) (n ci m cs : Nat) (r : Int) (x : Nat → Int) (st : Nat → Int × Int × Int) (w : World) (hn : n ≤ 1099511627776) (hm : m ≤ 1099511627776) (hI : Ints w I n x) (hS : Stops w S m st) :
    Calls Try.prog 29 #[.agg #[.slice I n ci, .slice S m cs], .int .i64 r] w (Ans w (decL n x m st r)) := by
  have HI := Lib.hid hI
  have HS := Lib.hid hS
  clear hI hS
  cases h1 : okB n x m st r
  · have HV : Hid (decL n x m st r = []) := Lib.hid (by unfold decL; rw [h1]; rfl)
    have H1 := Lib.hid h1
    clear h1
    go_enter Try.func29, Try.ntmps29
    go_wp2_with fail
    refine (roundsOk_any I S n ci m cs x st r _ hn hm (HI.out.keeps (Keeps.alloc _ _)) (HS.out.keeps (Keeps.alloc _ _))).mono ?_
    rintro e w1 ⟨rfl, hk1⟩
    rw [H1.out]
    go_wp2
    go_ret
    rw [HV.out]
    exact Ans.nil _ _ ((Keeps.alloc _ _).step hk1)
  · obtain ⟨hrun, hr0, hr4⟩ := okB_true h1
    obtain ⟨R, rfl⟩ := Int.eq_ofNat_of_zero_le hr0
    have hR : R ≤ 4 := by omega
    have HV : Hid (decL n x m st R = il n (dec n x m st R)) := Lib.hid (by unfold decL; rw [h1]; rfl)
    have H1 := Lib.hid h1
    have HRUN := Lib.hid hrun
    clear h1 hrun
    go_enter Try.func29, Try.ntmps29
    go_wp2_with fail
    refine (roundsOk_any I S n ci m cs x st R _ hn hm (HI.out.keeps (Keeps.alloc _ _)) (HS.out.keeps (Keeps.alloc _ _))).mono ?_
    rintro e w1 ⟨rfl, hk1⟩
    rw [H1.out]
    have hK1 := (Keeps.alloc w (.cells #[.slice I n ci, .slice S m cs] 26)).step hk1
    have hB1 := (Blk.new w #[.slice I n ci, .slice S m cs] 26).keeps hk1
    have b0 : w1.cell? ⟨w.heap.size, 0, none⟩ = some (.slice I n ci) := hB1.cell 0
    have b1 : w1.cell? ⟨w.heap.size, 1, none⟩ = some (.slice S m cs) := hB1.cell 1
    go_wp2_with fail
    refine (decisions_any I S n ci m cs R x st _ hm hR (HI.out.keeps hK1) (HS.out.keeps hK1) HRUN.out).mono ?_
    intro e w2 hA
    rw [← HV.out] at hA
    obtain ⟨A, c, rfl, hO, hk2⟩ := hA.of hK1
    have HO := Lib.hid hO
    clear hO
    go_wp2
    go_ret
    exact ⟨A, c, rfl, HO.out, hk2⟩
set_option maxRecDepth 100000 in
set_option maxHeartbeats 4000000 in
theorem sdecisions_any (I S : Option Addr) (n ci m cs R : Nat) (x : Nat → Int) (st : Nat → Int × Int × Int) (w : World) (hm : m ≤ 1099511627776) (hR : R ≤ 4) (hI : Ints w I n x) (hS : Stops w S m st) (hok : runB n x m st = true) :
    Calls Try.prog 64 #[.agg #[.slice I n ci, .slice S m cs], .int .i64 R] w (Ans w (il n (dec n x m st R))) := by
  have HI := Lib.hid hI
  have HS := Lib.hid hS
  have HOK := Lib.hid hok
  have HX := Lib.hid (fun i hi => (run_in hok i hi).1)
  have HXB := Lib.hid (run_in hok)
  obtain ⟨hn1, hn4⟩ := runB_n hok
  clear hS hI hok
  go_enter Try.func64, Try.ntmps64
  go_wp2_with fail
  refine (sseen_any I S n ci m cs R x st _ hm hR (HS.out.keeps (Keeps.alloc _ _)) HOK.out).mono ?_
  rintro e w1 ⟨g, cg, rfl, hL, hk1⟩
  have hK1 := (Keeps.alloc w (.cells #[.slice I n ci, .slice S m cs] 26)).step hk1
  have hB1 := (Blk.new w #[.slice I n ci, .slice S m cs] 26).keeps hk1
  have hgb := hL.block
  have HW1 := Lib.hid hK1.size
  go_wp2_with fail
  go_loopw [7, 6] (fun i s wr => ∃ (k c : Nat) (A : Option Addr), k ≤ n ∧ i = .int .i64 k ∧ s = .slice A k c ∧ OwnInts wr w1.heap.size A k c (il k (dec n x m st R)) ∧ OwnInts wr w.heap.size (some ⟨g, 0, none⟩) n cg (fl n (aft n st m R)) ∧ Blk wr w.heap.size 26 #[.slice I n ci, .slice S m cs] ∧ Keeps w wr ∧ Keeps w1 wr) (fun i _ _ => n - (intOf i).toNat)
  case atStart => exact ⟨0, 0, _, by omega, rfl, rfl, OwnInts.made _ _ (Nat.le_refl _), (hL.mono (Keeps.alloc _ _).size).keeps (Keeps.alloc _ _), hB1.keeps (Keeps.alloc _ _), hK1.step (Keeps.alloc _ _), Keeps.alloc _ _⟩
  case round =>
    clear hL hB1 hK1 hk1
    obtain ⟨k, c, A, hk, rfl, rfl, hO, hL, hB, hK, hKA⟩ := hrel
    by_cases hlt : k < n
    · have hkl : (k : Int) < n := by omega
      obtain ⟨d, off, rfl, hcx⟩ := HI.out.keeps hK k hlt
      have b0 : wr.cell? ⟨w.heap.size, 0, none⟩ = some (.slice (some ⟨d, off, none⟩) n ci) := hB.cell 0
      have b1 : wr.cell? ⟨w.heap.size, 1, none⟩ = some (.slice S m cs) := hB.cell 1
      have HO := Lib.hid hO
      have HL := Lib.hid hL
      have HB := Lib.hid hB
      have HK := Lib.hid hK
      have HKA := Lib.hid hKA
      have HD := Lib.hid (show dec n x m st R k = if (stopF st m k).2.1 ≤ (R : Int) then -1 else decI x (aft n st m R k) n from rfl)
      have HDE := Lib.hid (dec_eq x (aft n st m R k) n k HX.out hlt (aft_self n st m R k))
      have hlt2 := aft_lt n st m R k hlt
      have hp16 : 2 ^ n ≤ 16 := Nat.le_trans (Nat.pow_le_pow_right (by omega) hn4) (by omega)
      have hs63 : aft n st m R k < 9223372036854775808 := by omega
      clear hO hL hB hK hKA hlt2 hp16
      obtain ⟨wd, rfl⟩ : ∃ wd : World, wd = wr := ⟨_, rfl⟩
      go_wp2_with fail
      go_loopw [9, 8] (fun i v wr => ∃ q : Nat, q ≤ n ∧ i = .int .i64 q ∧ v = .int .i64 (decS x (aft n st m R k) (x k) q) ∧ wd = wr) (fun i _ _ => n - (intOf i).toNat)
      case atStart => exact ⟨0, by omega, rfl, rfl, rfl⟩
      case round =>
        obtain ⟨q, hq, rfl, rfl, rfl⟩ := hrel
        by_cases hlq : q < n
        · have hql : (q : Int) < n := by omega
          obtain ⟨_, _, e, hcq⟩ := HI.out.keeps HK.out q hlq
          cases e
          have hcl := HL.out.cell k hlt
          rw [fl_getD _ _ _ hlt] at hcl
          have hq62 : q ≤ 62 := by omega
          have HN := Lib.hid (show decS x (aft n st m R k) (x k) (q + 1) = if (aft n st m R k).testBit q then min (decS x (aft n st m R k) (x k) q) (x q) else decS x (aft n st m R k) (x k) q from rfl)
          generalize decS x (aft n st m R k) (x k) q = v at *
          go_wp2_with fail
          refine (sbit_any (aft n st m R k) q _ hs63 hq62).mono ?_
          rintro e w2 ⟨rfl, rfl⟩
          cases e1 : (aft n st m R k).testBit q
          · have HN1 := Lib.hid (show decS x (aft n st m R k) (x k) (q + 1) = v by rw [HN.out, e1]; rfl)
            rw [show bitI false = 0 from rfl]
            go_wp2
            go_roundw
            case rel => exact ⟨q + 1, by omega, by go_num, by rw [HN1.out], trivial⟩
            case measure => simp [intOf]; omega
          · rw [show bitI true = 1 from rfl]
            by_cases e2 : v ≤ x q
            · have HN1 := Lib.hid (show decS x (aft n st m R k) (x k) (q + 1) = v by rw [HN.out, e1, if_pos rfl]; omega)
              have e3 : ¬ x q < v := by omega
              go_wp2
              go_roundw
              case rel => exact ⟨q + 1, by omega, by go_num, by rw [HN1.out], trivial⟩
              case measure => simp [intOf]; omega
            · have HN1 := Lib.hid (show decS x (aft n st m R k) (x k) (q + 1) = x q by rw [HN.out, e1, if_pos rfl]; omega)
              have e3 : x q < v := by omega
              go_wp2
              go_roundw
              case rel => exact ⟨q + 1, by omega, by go_num, by rw [HN1.out], trivial⟩
              case measure => simp [intOf]; omega
        · obtain rfl : q = n := by omega
          have HSB := Lib.hid (stops_eq HOK.out k (R : Int) (by omega))
          go_wp2_with fail
          refine (stopsBy_any (some ⟨d, off, none⟩) S q ci m cs k R st _ hm (HS.out.keeps HK.out)).mono ?_
          rintro e w2 ⟨rfl, hk2⟩
          have hO2 := HO.out.keeps hk2
          have hsz := Nat.le_trans HKA.out.size hk2.size
          have HN := Lib.hid (il_succ k (dec q x m st R))
          have HL2 := Lib.hid (HL.out.keeps hk2)
          have HB2 := Lib.hid (HB.out.keeps hk2)
          have HK2 := Lib.hid (HK.out.step hk2)
          have HKA2 := Lib.hid (HKA.out.step hk2)
          cases e1 : stopsB st m k (R : Int)
          · have HD1 := Lib.hid (show dec q x m st R k = decS x (aft q st m R k) (x k) q by rw [HD.out, if_neg (by rw [HSB.out] at e1; simpa using e1), HDE.out])
            go_wp2_with (first | (at_builtin; refine wp_app_int rfl _ _ rfl w1.heap.size A k c (il k (dec q x m st R)) _ rfl hO2 _ rfl (by omega) hsz ?_; intro g6 d' w6 hO6 hg6))
            go_roundw
            case rel => exact ⟨k + 1, d', _, by omega, by go_num, rfl, by rw [HN.out, HD1.out]; exact hO6, own_kept HL2.out hg6 (fun b hb e => by have := (own_block hO2 b e).1; simp at hb; omega), HB2.out.grown hg6 (own_other' hO2 HB2.out (by decide)), HK2.out.grown hO2 (HW1.out) hg6, HKA2.out.grown hO2 (Nat.le_refl _) hg6⟩
            case measure => simp [intOf]; omega
          · have HD1 := Lib.hid (show dec q x m st R k = -1 by rw [HD.out, if_pos (by rw [HSB.out] at e1; simpa using e1)])
            go_wp2_with (first | (at_builtin; refine wp_app_int rfl _ _ rfl w1.heap.size A k c (il k (dec q x m st R)) _ rfl hO2 _ rfl (by omega) hsz ?_; intro g6 d' w6 hO6 hg6))
            go_roundw
            case rel => exact ⟨k + 1, d', _, by omega, by go_num, rfl, by rw [HN.out, HD1.out]; exact hO6, own_kept HL2.out hg6 (fun b hb e => by have := (own_block hO2 b e).1; simp at hb; omega), HB2.out.grown hg6 (own_other' hO2 HB2.out (by decide)), HK2.out.grown hO2 (HW1.out) hg6, HKA2.out.grown hO2 (Nat.le_refl _) hg6⟩
            case measure => simp [intOf]; omega
    · obtain rfl : k = n := by omega
      have HO := Lib.hid (hO.mono (lo' := w.heap.size) HW1.out)
      clear hO hL hB
      go_wp2
      go_ret
      exact Ans.mk HO.out hK
set_option maxRecDepth 100000 in
set_option maxHeartbeats 2000000 in
theorem sdecisionsAfter_any (I S : Option Addr) (n ci m cs : Nat) (r : Int) (x : Nat → Int) (st : Nat → Int × Int × Int) (w : World) (hn : n ≤ 1099511627776) (hm : m ≤ 1099511627776) (hI : Ints w I n x) (hS : Stops w S m st) :
    Calls Try.prog 30 #[.agg #[.slice I n ci, .slice S m cs], .int .i64 r] w (Ans w (decL n x m st r)) := by
  have HI := Lib.hid hI
  have HS := Lib.hid hS
  clear hI hS
  cases h1 : runB n x m st
  · have HV : Hid (decL n x m st r = []) := Lib.hid (by unfold decL okB; rw [h1]; rfl)
    have H1 := Lib.hid h1
    clear h1
    go_enter Try.func30, Try.ntmps30
    go_wp2_with fail
    refine (svalidRun_any I S n ci m cs x st _ hn hm (HI.out.keeps (Keeps.alloc _ _)) (HS.out.keeps (Keeps.alloc _ _))).mono ?_
    rintro e w1 ⟨rfl, hk1⟩
    rw [H1.out]
    go_wp2
    go_ret
    rw [HV.out]
    exact Ans.nil _ _ ((Keeps.alloc _ _).step hk1)
  · have H1 := Lib.hid h1
    cases h2 : inB r 0 4
    · have HV : Hid (decL n x m st r = []) := Lib.hid (by unfold decL okB; rw [h1, h2]; rfl)
      have H2 := Lib.hid h2
      clear h1 h2
      go_enter Try.func30, Try.ntmps30
      go_wp2_with fail
      refine (svalidRun_any I S n ci m cs x st _ hn hm (HI.out.keeps (Keeps.alloc _ _)) (HS.out.keeps (Keeps.alloc _ _))).mono ?_
      rintro e w1 ⟨rfl, hk1⟩
      rw [H1.out]
      go_wp2_with fail
      refine (inRange_any _ _ _ _).mono ?_
      rintro e w2 ⟨rfl, rfl⟩
      rw [H2.out]
      go_wp2
      go_ret
      rw [HV.out]
      exact Ans.nil _ _ ((Keeps.alloc _ _).step hk1)
    · obtain ⟨hr0, hr4⟩ := inB_true h2
      obtain ⟨R, rfl⟩ := Int.eq_ofNat_of_zero_le hr0
      have hR : R ≤ 4 := by omega
      have HV : Hid (decL n x m st R = il n (dec n x m st R)) := Lib.hid (by unfold decL okB; rw [h1, h2]; rfl)
      have H2 := Lib.hid h2
      clear h1 h2
      go_enter Try.func30, Try.ntmps30
      go_wp2_with fail
      refine (svalidRun_any I S n ci m cs x st _ hn hm (HI.out.keeps (Keeps.alloc _ _)) (HS.out.keeps (Keeps.alloc _ _))).mono ?_
      rintro e w1 ⟨rfl, hk1⟩
      rw [H1.out]
      have hK1 := (Keeps.alloc w (.cells #[.slice I n ci, .slice S m cs] 26)).step hk1
      have hB1 := (Blk.new w #[.slice I n ci, .slice S m cs] 26).keeps hk1
      have b0 : w1.cell? ⟨w.heap.size, 0, none⟩ = some (.slice I n ci) := hB1.cell 0
      have b1 : w1.cell? ⟨w.heap.size, 1, none⟩ = some (.slice S m cs) := hB1.cell 1
      go_wp2_with fail
      refine (inRange_any _ _ _ _).mono ?_
      rintro e w2 ⟨rfl, rfl⟩
      rw [H2.out]
      go_wp2_with fail
      refine (sdecisions_any I S n ci m cs R x st _ hm hR (HI.out.keeps hK1) (HS.out.keeps hK1) H1.out).mono ?_
      intro e w2 hA
      rw [← HV.out] at hA
      obtain ⟨A, c, rfl, hO, hk2⟩ := hA.of hK1
      have HO := Lib.hid hO
      clear hO
      go_wp2
      go_ret
      exact ⟨A, c, rfl, HO.out, hk2⟩
end Go.Proofs.Ytepgogaoppdllaa
