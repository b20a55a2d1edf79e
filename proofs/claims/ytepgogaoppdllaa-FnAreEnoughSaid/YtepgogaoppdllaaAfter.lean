/-
  The contract of after (the program). Condition: a valid run, at most four rounds.
-/
import Derived.Test.YtepgogaoppdllaaSeen
namespace Go.Proofs.Ytepgogaoppdllaa
open Go.RowKit

theorem stopG_ok (st : Nat → Int × Int × Int) (p : Int) (m : Nat) : ∀ r k, k + r = m → stopG st p k r = (p, 5, 0) ∨ ∃ i, i < m ∧ stopG st p k r = st i
  | 0, k, _ => .inl rfl
  | r + 1, k, h => by
    rw [stopG]
    split
    · exact .inr ⟨k, by omega, rfl⟩
    · exact stopG_ok st p m r (k + 1) (by omega)
theorem stop_ok {n m : Nat} {x : Nat → Int} {st : Nat → Int × Int × Int} (h : runB n x m st = true) (p : Int) :
    (1 ≤ (stopF st m p).2.1 ∧ (stopF st m p).2.1 ≤ 5) ∧ (0 ≤ (stopF st m p).2.2 ∧ (stopF st m p).2.2 ≤ 15) := by
  unfold runB at h
  rw [Bool.and_eq_true, Bool.and_eq_true] at h
  obtain ⟨⟨h1, _⟩, h2⟩ := h
  have hn := inB_true h1
  have hp : 2 ^ n ≤ 16 := Nat.le_trans (Nat.pow_le_pow_right (by omega) (show n ≤ 4 by omega)) (by omega)
  rcases stopG_ok st p m m 0 (by omega) with e | ⟨i, hi, e⟩
  · unfold stopF; rw [e]; dsimp only; omega
  · unfold stopF
    rw [e]
    have h3 := (anyB_false _ _).1 (by simpa using h2) i hi
    simp only [stopBad, Bool.not_eq_false', Bool.and_eq_true] at h3
    have a := inB_true h3.1.2
    have b := inB_true h3.2
    omega
theorem upTo_same (p : Nat) (F G : Nat → Nat) (h : F p = G p) : upTo p F G = upTo (p + 1) F G := by
  rw [← upTo_set]
  funext i
  by_cases hi : i = p
  · subst hi; rw [if_pos rfl]; unfold upTo; rw [if_neg (by omega), h]
  · rw [if_neg hi]
theorem upTo_full (k : Nat) (F G : Nat → Nat) : upTo k F (upTo k G (fun _ => 0)) = upTo k F (fun _ => 0) := by
  funext i
  unfold upTo
  split
  · rfl
  · rfl
theorem runB_n {n m : Nat} {x : Nat → Int} {st : Nat → Int × Int × Int} (h : runB n x m st = true) : 1 ≤ n ∧ n ≤ 4 := by
  unfold runB at h
  rw [Bool.and_eq_true, Bool.and_eq_true] at h
  have hn := inB_true h.1.1
  omega

set_option maxRecDepth 100000 in
set_option maxHeartbeats 4000000 in
theorem after_any (I S : Option Addr) (n ci m cs R : Nat) (x : Nat → Int) (st : Nat → Int × Int × Int) (w : World) (hm : m ≤ 1099511627776) (hR : R ≤ 4) (hI : Ints w I n x) (hS : Stops w S m st) (hok : runB n x m st = true) :
    Calls Try.prog 45 #[.agg #[.slice I n ci, .slice S m cs], .int .i64 R] w fun e w' => e = .returned (.agg (arr (upTo n (aft n st m R) (fun _ => 0)))) ∧ Keeps w w' := by
  have HI := Lib.hid hI
  have HS := Lib.hid hS
  have HOK := Lib.hid hok
  obtain ⟨hn1, hn4⟩ := runB_n hok
  clear hS hI hok
  have hfd : ∀ (a b c : Value) (w : World), (Instr.field 65 (.agg #[a, b, c]) 1).run Try.prog w = .ok b w := fun _ _ _ _ => rfl
  go_enter Try.func45, Try.ntmps45
  go_wp2_with fail
  go_loopw [15] (fun i wr => ∃ k : Nat, k ≤ n ∧ i = .int .i64 k ∧ Blk wr w.heap.size 26 #[.slice I n ci, .slice S m cs] ∧ Blk wr (w.heap.size + 1) 57 (arr fun _ => 0) ∧ Blk wr (w.heap.size + 2) 57 (arr (upTo k (fun p => 2 ^ p) (fun _ => 0))) ∧ Keeps w wr) (fun i _ => n - (intOf i).toNat)
  case atStart => exact ⟨0, by omega, rfl, ((Blk.new w _ _).keeps (Keeps.alloc _ _)).keeps (Keeps.alloc _ _), (blk_at (by simp) (Blk.new _ _ _)).keeps (Keeps.alloc _ _), blk_at (by simp) (Blk.new _ _ _), ((Keeps.alloc _ _).step (Keeps.alloc _ _)).step (Keeps.alloc _ _)⟩
  case round =>
    obtain ⟨k, hk, rfl, hB0, hB1, hB2, hK⟩ := hrel
    by_cases hlt : k < n
    · have hk4 : (k : Int) < 4 := by omega
      have W3 : IntKind.i64.wrap ((2 : Int) ^ k) = ((2 ^ k : Nat) : Int) := by
        have hp : 2 ^ k ≤ 16 := Nat.le_trans (Nat.pow_le_pow_right (by omega) (show k ≤ 4 by omega)) (by omega)
        have hp1 : 1 ≤ 2 ^ k := Nat.two_pow_pos k
        rw [IntKind.wrap_i64, ← castPow]; omega
      have c2 : wr.cell? ⟨w.heap.size + 2, k, none⟩ = some (.int .i64 (upTo k (fun p => 2 ^ p) (fun _ => 0) k : Nat)) := by rw [hB2.cell, arr_get _ _ (by omega)]
      have f2 := hB2.frozen k
      have HB0 := Lib.hid hB0
      have HB1 := Lib.hid hB1
      have HB2 := Lib.hid hB2
      have HU := Lib.hid (upTo_set k (fun p => 2 ^ p) (fun _ => 0))
      have hk4' : k < 4 := by omega
      clear hB0 hB1 hB2
      go_wp2
      go_roundw
      case rel => exact ⟨k + 1, by omega, by go_num, HB0.out.set_other _ _ (by simp; omega), HB1.out.set_other _ _ (by simp), by rw [← HU.out, ← arr_set _ _ _ hk4']; exact HB2.out.set k _, hK.setCell (by simp; omega) _⟩
      case measure => simp [intOf]; omega
    · obtain rfl : k = n := by omega
      have HB0 := Lib.hid hB0
      have HB1 := Lib.hid hB1
      have HB2 := Lib.hid hB2
      clear hB0 hB1 hB2
      have hKa := hK
      clear hK hlt hk
      obtain ⟨wa, rfl⟩ : ∃ wa : World, wa = wr := ⟨_, rfl⟩
      have HB2 : Hid (Blk wa (w.heap.size + 2) 57 (arr (upTo k (aft k st m 0) (fun _ => 0)))) := HB2
      go_wp2_with fail
      go_loopw [7] (fun i wr => ∃ r : Nat, r ≤ R ∧ i = .int .i64 ((r : Int) + 1) ∧ Blk wr w.heap.size 26 #[.slice I k ci, .slice S m cs] ∧ Blk wr (w.heap.size + 1) 57 (arr fun _ => 0) ∧ Blk wr (w.heap.size + 2) 57 (arr (upTo k (aft k st m r) (fun _ => 0))) ∧ Keeps w wr) (fun i _ => R + 1 - (intOf i).toNat)
      case atStart => exact ⟨0, by omega, rfl, HB0.out, HB1.out, HB2.out, hKa⟩
      case round =>
        clear HB0 HB1 HB2 hKa
        obtain ⟨r, hr, rfl, hB0, hB1, hB2, hK⟩ := hrel
        have hw : IntKind.i64.wrap ((r : Int) + 1) = (r : Int) + 1 := by rw [IntKind.wrap_i64]; omega
        by_cases hlt : r < R
        · have hle : (r : Int) + 1 ≤ R := by omega
          have a0 : wr.cell? ⟨w.heap.size + 2, 0, none⟩ = _ := (hB2.cell 0).trans (arr_get _ 0 (by omega))
          have a1 : wr.cell? ⟨w.heap.size + 2, 1, none⟩ = _ := (hB2.cell 1).trans (arr_get _ 1 (by omega))
          have a2 : wr.cell? ⟨w.heap.size + 2, 2, none⟩ = _ := (hB2.cell 2).trans (arr_get _ 2 (by omega))
          have a3 : wr.cell? ⟨w.heap.size + 2, 3, none⟩ = _ := (hB2.cell 3).trans (arr_get _ 3 (by omega))
          have b0 : wr.cell? ⟨w.heap.size, 0, none⟩ = some (.slice I k ci) := hB0.cell 0
          have hl0 := hB0.lt
          have hl1 := hB1.lt
          have hl2 := hB2.lt
          have HB0 := Lib.hid hB0
          have HB1 := Lib.hid hB1
          have HB2 := Lib.hid hB2
          have hKb := hK
          clear hB0 hB1 hB2 hK
          have HRL := Lib.hid (show r + 1 ≤ R from hlt)
          clear hr hlt
          generalize hA0 : upTo k (aft k st m r) (fun _ => 0) = A0 at *
          have HA0 := Lib.hid hA0
          clear hA0
          obtain ⟨wb, rfl⟩ : ∃ wb : World, wb = wr := ⟨_, rfl⟩
          go_wp2_with fail
          go_loopw [32] (fun i wr => ∃ p : Nat, p ≤ k ∧ i = .int .i64 p ∧ Blk wr w.heap.size 26 #[.slice I k ci, .slice S m cs] ∧ Blk wr (w.heap.size + 1) 57 (arr fun _ => 0) ∧ Blk wr (w.heap.size + 2) 57 (arr (upTo p (aft k st m (r + 1)) A0)) ∧ Blk wr wb.heap.size 57 (arr A0) ∧ Keeps w wr) (fun i _ => k - (intOf i).toNat)
          case atStart => exact ⟨0, by omega, rfl, HB0.out.keeps (Keeps.alloc _ _), HB1.out.keeps (Keeps.alloc _ _), HB2.out.keeps (Keeps.alloc _ _), Blk.new _ _ _, hKb.step (Keeps.alloc _ _)⟩
          case round =>
            clear HB0 HB1 HB2 hKb a0 a1 a2 a3 b0
            obtain ⟨p, hp, rfl, hB0, hB1, hB2, hB8, hK⟩ := hrel
            by_cases hlt : p < k
            · have b0 : wr.cell? ⟨w.heap.size, 0, none⟩ = some (.slice I k ci) := hB0.cell 0
              have b1 : wr.cell? ⟨w.heap.size, 1, none⟩ = some (.slice S m cs) := hB0.cell 1
              have HB0 := Lib.hid hB0
              have HB1 := Lib.hid hB1
              have HB2 := Lib.hid hB2
              have HB8 := Lib.hid hB8
              clear hB0 hB1 hB2 hB8
              have hok := stop_ok HOK.out (p : Int)
              have HH := Lib.hid (show aft k st m (r + 1) p = if (stopF st m p).2.1 < (r + 1 : Nat) then aft k st m r p else orN (fun q => heard st m q p (r + 1)) (aft k st m r) (aft k st m r p) k from rfl)
              go_wp2_with fail
              refine (stopOf_any I S k ci m cs st p _ hm (HS.out.keeps hK)).mono ?_
              rintro e w1 ⟨rfl, hk1⟩
              rw [show trip (stopF st m p) = .agg #[.int .i64 (stopF st m p).1, .int .i64 (stopF st m p).2.1, .int .i64 (stopF st m p).2.2] from rfl]
              by_cases hd : (stopF st m p).2.1 < (r : Int) + 1
              · have HD := Lib.hid hd
                go_wp2
                go_roundw
                case rel =>
                  refine ⟨p + 1, by omega, by go_num, HB0.out.keeps hk1, HB1.out.keeps hk1, ?_, HB8.out.keeps hk1, hK.step hk1⟩
                  rw [← upTo_same p (aft k st m (r + 1)) A0 (by rw [HH.out, if_pos (by have := HD.out; omega), ← HA0.out]; unfold upTo; rw [if_pos hlt])]
                  exact HB2.out.keeps hk1
                case measure => simp [intOf]; omega
              · have HD := Lib.hid hd
                have b0' := cell_keeps hk1 b0
                have b1' := cell_keeps hk1 b1
                have HB0' := Lib.hid (HB0.out.keeps hk1)
                have HB1' := Lib.hid (HB1.out.keeps hk1)
                have HB2' := Lib.hid (HB2.out.keeps hk1)
                have HB8' := Lib.hid (HB8.out.keeps hk1)
                have hKc := hK.step hk1
                have HH2 : Hid (aft k st m (r + 1) p = orN (fun q => heard st m q p (r + 1)) (aft k st m r) (aft k st m r p) k) := Lib.hid (by rw [HH.out, if_neg (by have := HD.out; omega)])
                have HA0p : Hid (∀ i, i < k → A0 i = aft k st m r i) := Lib.hid (fun i hi => by rw [← HA0.out]; unfold upTo; rw [if_pos hi])
                clear HB0 HB1 HB2 HB8 hK HH
                clear hk1 b0 b1
                obtain ⟨wd, rfl⟩ : ∃ wd : World, wd = wr := ⟨_, rfl⟩
                go_wp2_with fail
                go_loopw [44] (fun i wr => ∃ q : Nat, q ≤ k ∧ i = .int .i64 q ∧ Blk wr w.heap.size 26 #[.slice I k ci, .slice S m cs] ∧ Blk wr (w.heap.size + 1) 57 (arr fun _ => 0) ∧ Blk wr (w.heap.size + 2) 57 (arr (fun i => if i = p then orN (fun q => heard st m q p (r + 1)) (aft k st m r) (aft k st m r p) q else upTo p (aft k st m (r + 1)) A0 i)) ∧ Blk wr wb.heap.size 57 (arr A0) ∧ Keeps w wr) (fun i _ => k - (intOf i).toNat)
                case atStart =>
                  refine ⟨0, by omega, rfl, HB0'.out, HB1'.out, ?_, HB8'.out, hKc⟩
                  rw [show (fun i => if i = p then orN (fun q => heard st m q p (r + 1)) (aft k st m r) (aft k st m r p) 0 else upTo p (aft k st m (r + 1)) A0 i) = upTo p (aft k st m (r + 1)) A0 from by
                    funext i
                    by_cases hi : i = p
                    · subst hi; rw [if_pos rfl]; unfold upTo; rw [if_neg (by omega), HA0p.out i hlt]; rfl
                    · rw [if_neg hi]]
                  exact HB2'.out
                case round =>
                  clear HB0' HB1' HB2' HB8' hKc b0' b1'
                  obtain ⟨q, hq, rfl, hB0, hB1, hB2, hB8, hK⟩ := hrel
                  by_cases hlq : q < k
                  · have b0 : wr.cell? ⟨w.heap.size, 0, none⟩ = some (.slice I k ci) := hB0.cell 0
                    have b1 : wr.cell? ⟨w.heap.size, 1, none⟩ = some (.slice S m cs) := hB0.cell 1
                    have HB0 := Lib.hid hB0
                    have HB1 := Lib.hid hB1
                    have HB2 := Lib.hid hB2
                    have HB8 := Lib.hid hB8
                    clear hB0 hB1 hB2 hB8
                    have hok := stop_ok HOK.out (q : Int)
                    go_wp2_with fail
                    refine (stopOf_any I S k ci m cs st q _ hm (HS.out.keeps hK)).mono ?_
                    rintro e w2 ⟨rfl, hk2⟩
                    rw [show trip (stopF st m q) = .agg #[.int .i64 (stopF st m q).1, .int .i64 (stopF st m q).2.1, .int .i64 (stopF st m q).2.2] from rfl]
                    have hT : heard st m q p (r + 1) = (decide (((r + 1 : Nat) : Int) < (stopF st m q).2.1) || ((stopF st m q).2.1 == ((r + 1 : Nat) : Int) && (stopF st m q).2.2.toNat.testBit p)) := rfl
                    have HO := Lib.hid (show orN (fun q => heard st m q p (r + 1)) (aft k st m r) (aft k st m r p) (q + 1) = if heard st m q p (r + 1) then orN (fun q => heard st m q p (r + 1)) (aft k st m r) (aft k st m r p) q ||| aft k st m r q else orN (fun q => heard st m q p (r + 1)) (aft k st m r) (aft k st m r p) q from rfl)
                    have HB0 := Lib.hid (HB0.out.keeps hk2)
                    have HB1 := Lib.hid (HB1.out.keeps hk2)
                    have HB2 := Lib.hid (HB2.out.keeps hk2)
                    have HB8 := Lib.hid (HB8.out.keeps hk2)
                    have hKd := hK.step hk2
                    have hAq := HA0p.out q hlq
                    have hpw : 2 ^ k ≤ 16 := Nat.le_trans (Nat.pow_le_pow_right (by omega) (show k ≤ 4 by omega)) (by omega)
                    have hl1 := aft_lt k st m r q hlq
                    have hl2 := orN_lt (f := fun q => heard st m q p (r + 1)) q (aft_lt k st m r p hlt) (fun i hi => aft_lt k st m r i (by omega))
                    have c2 : w2.cell? ⟨w.heap.size + 2, p, none⟩ = some (.int .i64 (orN (fun q => heard st m q p (r + 1)) (aft k st m r) (aft k st m r p) q : Nat)) := by rw [HB2.out.cell, arr_get _ _ (by omega), if_pos rfl]
                    have c8 : w2.cell? ⟨wb.heap.size, q, none⟩ = some (.int .i64 (aft k st m r q : Nat)) := by rw [HB8.out.cell, arr_get _ _ (by omega), hAq]
                    have f2 := HB2.out.frozen p
                    have HBO := bits_or (orN (fun q => heard st m q p (r + 1)) (aft k st m r) (aft k st m r p) q) (aft k st m r q) (by omega) (by omega)
                    have hz2 := HB2.out.lt
                    have hz8 := HB8.out.lt
                    generalize stopF st m q = t at *
                    obtain ⟨t1, t2, t3⟩ := t
                    dsimp only at hT hok ⊢
                    obtain ⟨h, rfl⟩ := Int.eq_ofNat_of_zero_le hok.2.1
                    rw [Int.toNat_natCast] at hT
                    have hbit := testBit_one h p (by omega)
                    have hp4 : (p : Int) < 4 := by omega
                    have hq4 : (q : Int) < 4 := by omega
                    clear hK hk2 b0 b1 hl1 hl2 hAq
                    generalize heard st m q p (r + 1) = hb at hT HO
                    by_cases hA : (r : Int) + 1 < t2
                    · have hh := Lib.hid (show hb = true by rw [hT, decide_eq_true (by omega)]; rfl)
                      clear hT
                      go_wp2
                      go_region
                      go_wp2_with fail
                      go_roundw
                      case rel =>
                        refine ⟨q + 1, by omega, by go_num, ((HB0.out.set_other _ _ (by simp; omega)).keeps (Keeps.alloc _ _)).keeps (Keeps.drew1 _), ((HB1.out.set_other _ _ (by simp)).keeps (Keeps.alloc _ _)).keeps (Keeps.drew1 _), ?_, ((HB8.out.set_other _ _ (by simp; omega)).keeps (Keeps.alloc _ _)).keeps (Keeps.drew1 _), Keeps.step (Keeps.step (Below.setCell hKd (by show w.heap.size ≤ w.heap.size + 2; omega) _) (Keeps.alloc _ _)) (Keeps.drew1 _)⟩
                        have e := HB2.out.set p (.int .i64 (orN (fun q => heard st m q p (r + 1)) (aft k st m r) (aft k st m r p) q ||| aft k st m r q : Nat))
                        rw [arr_set _ _ _ (by omega)] at e
                        rw [HO.out, hh.out, if_pos rfl]
                        refine ((?_ : Blk _ _ _ _).keeps (Keeps.alloc _ _)).keeps (Keeps.drew1 _)
                        rw [show (fun i => if i = p then orN (fun q => heard st m q p (r + 1)) (aft k st m r) (aft k st m r p) q ||| aft k st m r q else upTo p (aft k st m (r + 1)) A0 i) = (fun i => if i = p then orN (fun q => heard st m q p (r + 1)) (aft k st m r) (aft k st m r p) q ||| aft k st m r q else if i = p then orN (fun q => heard st m q p (r + 1)) (aft k st m r) (aft k st m r p) q else upTo p (aft k st m (r + 1)) A0 i) from by funext i; by_cases hi : i = p <;> simp [hi]]
                        exact e
                      case measure => simp [intOf]; omega
                    · by_cases hE : t2 = (r : Int) + 1
                      · subst hE
                        cases hbt : h.testBit p
                        · have hh : hb = false := by rw [hT, hbt]; simp
                          rw [hbt] at hbit
                          clear hT
                          have HHH := Lib.hid hh
                          clear hh
                          go_wp2
                          go_roundw
                          case rel =>
                            refine ⟨q + 1, by omega, by go_num, HB0.out.keeps (Keeps.alloc _ _), HB1.out.keeps (Keeps.alloc _ _), ?_, HB8.out.keeps (Keeps.alloc _ _), hKd.step (Keeps.alloc _ _)⟩
                            rw [HO.out, HHH.out]
                            exact HB2.out.keeps (Keeps.alloc _ _)
                          case measure => simp [intOf]; omega
                        · have hh := Lib.hid (show hb = true by rw [hT, hbt]; simp)
                          rw [hbt] at hbit
                          clear hT
                          go_wp2
                          go_region
                          go_wp2_with fail
                          go_roundw
                          case rel =>
                            refine ⟨q + 1, by omega, by go_num, ((HB0.out.set_other _ _ (by simp; omega)).keeps (Keeps.alloc _ _)).keeps (Keeps.drew1 _), ((HB1.out.set_other _ _ (by simp)).keeps (Keeps.alloc _ _)).keeps (Keeps.drew1 _), ?_, ((HB8.out.set_other _ _ (by simp; omega)).keeps (Keeps.alloc _ _)).keeps (Keeps.drew1 _), Keeps.step (Keeps.step (Below.setCell hKd (by show w.heap.size ≤ w.heap.size + 2; omega) _) (Keeps.alloc _ _)) (Keeps.drew1 _)⟩
                            have e := HB2.out.set p (.int .i64 (orN (fun q => heard st m q p (r + 1)) (aft k st m r) (aft k st m r p) q ||| aft k st m r q : Nat))
                            rw [arr_set _ _ _ (by omega)] at e
                            rw [HO.out, hh.out, if_pos rfl]
                            refine ((?_ : Blk _ _ _ _).keeps (Keeps.alloc _ _)).keeps (Keeps.drew1 _)
                            rw [show (fun i => if i = p then orN (fun q => heard st m q p (r + 1)) (aft k st m r) (aft k st m r p) q ||| aft k st m r q else upTo p (aft k st m (r + 1)) A0 i) = (fun i => if i = p then orN (fun q => heard st m q p (r + 1)) (aft k st m r) (aft k st m r p) q ||| aft k st m r q else if i = p then orN (fun q => heard st m q p (r + 1)) (aft k st m r) (aft k st m r p) q else upTo p (aft k st m (r + 1)) A0 i) from by funext i; by_cases hi : i = p <;> simp [hi]]
                            exact e
                          case measure => simp [intOf]; omega
                      · have hh : hb = false := by rw [hT, decide_eq_false (by omega)]; simp; omega
                        have HHH := Lib.hid hh
                        clear hh hT
                        have hE2 : (t2 == (r : Int) + 1) = false := by simpa using hE
                        go_wp2
                        go_roundw
                        case rel =>
                          refine ⟨q + 1, by omega, by go_num, HB0.out.keeps (Keeps.alloc _ _), HB1.out.keeps (Keeps.alloc _ _), ?_, HB8.out.keeps (Keeps.alloc _ _), hKd.step (Keeps.alloc _ _)⟩
                          rw [HO.out, HHH.out]
                          exact HB2.out.keeps (Keeps.alloc _ _)
                        case measure => simp [intOf]; omega
                  · obtain rfl : q = k := by omega
                    have HB0 := Lib.hid hB0
                    have HB1 := Lib.hid hB1
                    have HB2 := Lib.hid hB2
                    have HB8 := Lib.hid hB8
                    clear hB0 hB1 hB2 hB8
                    go_wp2
                    go_roundw
                    case rel =>
                      refine ⟨p + 1, by omega, by go_num, HB0.out, HB1.out, ?_, HB8.out, hK⟩
                      rw [← upTo_set, HH2.out]
                      exact HB2.out
                    case measure => simp [intOf]; omega
            · obtain rfl : p = k := by omega
              have HB0 := Lib.hid hB0
              have HB1 := Lib.hid hB1
              have HB2 := Lib.hid hB2
              clear hB0 hB1 hB2 hB8
              go_wp2
              go_roundw
              case rel =>
                refine ⟨r + 1, HRL.out, by go_num, HB0.out, HB1.out, ?_, hK⟩
                rw [← upTo_full p (aft p st m (r + 1)) (aft p st m r)]
                rw [HA0.out]
                exact HB2.out
              case measure => have := HRL.out; simp [intOf]; omega
        · obtain rfl : r = R := by omega
          have a0 : wr.cell? ⟨w.heap.size + 2, 0, none⟩ = _ := (hB2.cell 0).trans (arr_get _ 0 (by omega))
          have a1 : wr.cell? ⟨w.heap.size + 2, 1, none⟩ = _ := (hB2.cell 1).trans (arr_get _ 1 (by omega))
          have a2 : wr.cell? ⟨w.heap.size + 2, 2, none⟩ = _ := (hB2.cell 2).trans (arr_get _ 2 (by omega))
          have a3 : wr.cell? ⟨w.heap.size + 2, 3, none⟩ = _ := (hB2.cell 3).trans (arr_get _ 3 (by omega))
          have f0 := hB1.frozen 0
          have f1 := hB1.frozen 1
          have f2 := hB1.frozen 2
          have f3 := hB1.frozen 3
          have z0 : wr.cell? ⟨w.heap.size + 1, 0, none⟩ = some (.int .i64 0) := hB1.cell 0
          have z1 : wr.cell? ⟨w.heap.size + 1, 1, none⟩ = some (.int .i64 0) := hB1.cell 1
          have z2 : wr.cell? ⟨w.heap.size + 1, 2, none⟩ = some (.int .i64 0) := hB1.cell 2
          have z3 : wr.cell? ⟨w.heap.size + 1, 3, none⟩ = some (.int .i64 0) := hB1.cell 3
          have hnl : ¬ (r : Int) + 1 ≤ r := by omega
          clear hB0 hB1 hB2
          generalize hv0 : upTo k (aft k st m r) (fun _ => 0) = V at *
          have HV := Lib.hid hv0
          clear hv0
          go_wp2
          refine bodyPost_ret (v := .agg (arr V)) (by simp [results, Try.results45, go_sem, arr, z0, z1, z2, z3]) rfl ⟨by rw [HV.out], (((hK.setCell (Nat.le_succ _) _).setCell (Nat.le_succ _) _).setCell (Nat.le_succ _) _).setCell (Nat.le_succ _) _⟩
end Go.Proofs.Ytepgogaoppdllaa
