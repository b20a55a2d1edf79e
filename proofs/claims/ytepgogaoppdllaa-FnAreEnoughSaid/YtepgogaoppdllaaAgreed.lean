/-
  The contracts of agreed and IsAgreed, the program's and the reference's, and of sameVoice (the laws). Conditions: lengths at most 2^40; for the program's agreed a valid run, at most four rounds.
-/
import Derived.Test.YtepgogaoppdllaaDecs
import Derived.Test.YtepgogaoppdllaaAgreeLaw
import Derived.Test.YtepgogaoppdllaaDelete
namespace Go.Proofs.Ytepgogaoppdllaa
open Go.RowKit

theorem filter_agr (n : Nat) (d : Nat → Int) (h : ∀ p, -1 ≤ d p) (F : List Int) (hF : (il n d).filter (fun z => !(z == -1)) = F) (k : Nat) (hk : k < 2 ↔ ∀ i j, i < F.length → j < F.length → F.getD i 0 = F.getD j 0) : decide (k < 2) = agrB n d := by
  have e : (∀ i j, i < F.length → j < F.length → F.getD i 0 = F.getD j 0) ↔ agrB n d = true := by
    rw [← agr_filter n d h, hF]
    constructor
    · intro hx a ha b hb
      obtain ⟨i, hi, rfl⟩ := List.getElem_of_mem ha
      obtain ⟨j, hj, rfl⟩ := List.getElem_of_mem hb
      have := hx i j hi hj
      rwa [List.getD_eq_getElem?_getD, List.getElem?_eq_getElem hi, List.getD_eq_getElem?_getD, List.getElem?_eq_getElem hj] at this
    · intro hx i j hi hj
      rw [List.getD_eq_getElem?_getD, List.getElem?_eq_getElem hi, List.getD_eq_getElem?_getD, List.getElem?_eq_getElem hj]
      exact hx _ (List.getElem_mem hi) _ (List.getElem_mem hj)
  cases h1 : agrB n d
  · have : ¬ (k < 2) := fun h => by rw [e.1 (hk.1 h)] at h1; cases h1
    simpa using this
  · have := hk.2 (e.2 h1)
    simpa using this
set_option maxRecDepth 100000 in
set_option maxHeartbeats 2000000 in
theorem agreed_any (I S : Option Addr) (n ci m cs R : Nat) (x : Nat → Int) (st : Nat → Int × Int × Int) (w : World) (hm : m ≤ 1099511627776) (hR : R ≤ 4) (hI : Ints w I n x) (hS : Stops w S m st) (hok : runB n x m st = true) :
    Calls Try.prog 60 #[.agg #[.slice I n ci, .slice S m cs], .int .i64 R] w fun e w' => e = .returned (.bool (agrB n (dec n x m st R))) ∧ Keeps w w' := by
  have HI := Lib.hid hI
  have HS := Lib.hid hS
  have HOK := Lib.hid hok
  have HLOW := Lib.hid (fun p => (dec_low hok R p).1)
  obtain ⟨hn1, hn4⟩ := runB_n hok
  have kk := Keeps.alloc w (.cells #[.slice I n ci, .slice S m cs] 26)
  clear hI hS hok
  go_enter Try.func60, Try.ntmps60
  go_wp2_with fail
  refine (decisions_any I S n ci m cs R x st _ hm hR (HI.out.keeps kk) (HS.out.keeps kk) HOK.out).mono ?_
  intro e w1 hA
  obtain ⟨A, c, rfl, hO, hk1⟩ := hA.of kk
  rw [il_len] at hO ⊢
  have HF := Lib.hid (filter_agr n (dec n x m st R) HLOW.out)
  generalize hL : il n (dec n x m st R) = L at *
  have HL := Lib.hid hL
  have HO := Lib.hid hO
  clear hO hL
  go_wp2_with fail
  refine (delete_any 84 (fun _ _ => rfl) ag1_any w.heap.size A n c L _ (by omega) HO.out w hk1 (Nat.le_refl _)).mono ?_
  rintro e w2 ⟨k, hkn, rfl, hO2, hk2⟩
  have hl2 := hO2.len
  generalize hF : L.filter (fun z => !(z == -1)) = F at *
  have HFe := Lib.hid hF
  rw [← il_self F k hl2] at hO2
  have HO2 := Lib.hid hO2
  have HL2 := Lib.hid hl2
  clear hO2 hF hl2
  generalize hz : (fun i => F.getD i 0) = z at *
  have HZ := Lib.hid hz
  clear hz
  go_wp2_with fail
  refine (compact_any w.heap.size A k c z _ (by omega) HO2.out w hk2 (Nat.le_refl _)).mono ?_
  rintro e w3 ⟨k3, rfl, hk3, hK3⟩
  have HK3 := Lib.hid hk3
  clear hk3
  have HFIN : Hid (decide (k3 < 2) = agrB n (dec n x m st R)) := Lib.hid (HF.out F rfl k3 (by
    rw [HK3.out, HL2.out, ← HZ.out]))
  have HFIN2 : Hid (decide ((k3 : Int) < 2) = agrB n (dec n x m st R)) := Lib.hid (by rw [← HFIN.out]; by_cases h : k3 < 2 <;> simp [h] <;> omega)
  go_wp2
  go_ret
  exact ⟨ret_bool HFIN2.out, hK3⟩
set_option maxHeartbeats 2000000 in
theorem sagreed_any (A : Option Addr) (n c : Nat) (d : Nat → Int) (w : World) (hn : n ≤ 1099511627776) (hI : Ints w A n d) :
    Calls Try.prog 71 #[.slice A n c] w fun e w' => e = .returned (.bool (agrB n d)) ∧ Keeps w w' := by
  have HI := Lib.hid hI
  have HG := Lib.hid (agr_last d n)
  clear hI
  go_enter Try.func71, Try.ntmps71
  go_wp2_with fail
  go_loopw [3, 4] (fun v i wr => ∃ k : Nat, k ≤ n ∧ v = .int .i64 (lastV d k) ∧ i = .int .i64 k ∧ Hid (anyB (lastBad d) k = false) ∧ Keeps w wr) (fun _ i _ => n - (intOf i).toNat)
  case atStart => exact ⟨0, by omega, rfl, rfl, Lib.hid rfl, Keeps.refl _⟩
  case round =>
    obtain ⟨k, hk, rfl, rfl, HA, hK⟩ := hrel
    by_cases hlt : k < n
    · have hki : (k : Int) < n := by omega
      obtain ⟨b, off, rfl, hc⟩ := HI.out.keeps hK k hlt
      have HT := Lib.hid (show lastBad d k = (decide (0 ≤ d k) && decide (0 ≤ lastV d k) && (d k != lastV d k)) from rfl)
      have HN := Lib.hid (show lastV d (k + 1) = if 0 ≤ d k then d k else lastV d k from rfl)
      have HBAD : Hid (lastBad d k = true → false = agrB n d) := Lib.hid (fun h => by rw [← HG.out, (anyB_iff _ _).2 ⟨k, hlt, h⟩]; rfl)
      have HGO : Hid (lastBad d k = false → anyB (lastBad d) (k + 1) = false) := Lib.hid (fun h => by rw [anyB, HA.out, h]; rfl)
      generalize lastV d k = v at *
      generalize d k = z at *
      by_cases e1 : 0 ≤ z
      · have HN1 := Lib.hid (show lastV d (k + 1) = z by rw [HN.out, if_pos e1])
        by_cases e2 : 0 ≤ v
        · cases e3 : (z != v)
          · have HV := Lib.hid (HGO.out (by rw [HT.out, e3]; simp))
            go_wp2
            go_roundw
            case rel => exact ⟨k + 1, by omega, by rw [HN1.out], by go_num, HV, hK⟩
            case measure => simp [intOf]; omega
          · have HV := Lib.hid (HBAD.out (by rw [HT.out, e3]; simp [e1, e2]))
            go_wp2
            go_ret
            exact ⟨ret_bool HV.out, hK⟩
        · have HV := Lib.hid (HGO.out (by rw [HT.out]; simp [e2]))
          go_wp2
          go_roundw
          case rel => exact ⟨k + 1, by omega, by rw [HN1.out], by go_num, HV, hK⟩
          case measure => simp [intOf]; omega
      · have HN1 := Lib.hid (show lastV d (k + 1) = v by rw [HN.out, if_neg e1])
        have HV := Lib.hid (HGO.out (by rw [HT.out]; simp [e1]))
        go_wp2
        go_roundw
        case rel => exact ⟨k + 1, by omega, by rw [HN1.out], by go_num, HV, hK⟩
        case measure => simp [intOf]; omega
    · obtain rfl : k = n := by omega
      have HV : Hid (true = agrB k d) := Lib.hid (by rw [← HG.out, HA.out]; rfl)
      go_wp2
      go_ret
      exact ⟨ret_bool HV.out, hK⟩
set_option maxRecDepth 100000 in
set_option maxHeartbeats 2000000 in
theorem sameVoice_any (A : Option Addr) (n c : Nat) (d : Nat → Int) (w : World) (hn : n ≤ 1099511627776) (hI : Ints w A n d) :
    Calls Try.prog 40 #[.slice A n c] w fun e w' => e = .returned (.bool (agrB n d)) ∧ Keeps w w' := by
  have HI := Lib.hid hI
  clear hI
  go_enter Try.func40, Try.ntmps40
  go_wp2_with fail
  go_loopw [3] (fun i wr => ∃ k : Nat, k ≤ n ∧ i = .int .i64 k ∧ Hid (anyB (fun i => anyB (clash d i) i) k = false) ∧ Keeps w wr) (fun i _ => n - (intOf i).toNat)
  case atStart => exact ⟨0, by omega, rfl, Lib.hid rfl, Keeps.refl _⟩
  case round =>
    obtain ⟨k, hk, rfl, HA, hK⟩ := hrel
    by_cases hlt : k < n
    · have hki : (k : Int) < n := by omega
      obtain ⟨b, off, rfl, hc⟩ := HI.out.keeps hK k hlt
      have hKo := hK
      obtain ⟨wo, rfl⟩ : ∃ wo : World, wo = wr := ⟨_, rfl⟩
      go_wp2_with fail
      go_loopw [4] (fun i wr => ∃ j : Nat, j ≤ k ∧ i = .int .i64 j ∧ Hid (anyB (clash d k) j = false) ∧ Keeps w wr) (fun i _ => k - (intOf i).toNat)
      case atStart => exact ⟨0, by omega, rfl, Lib.hid rfl, hKo⟩
      case round =>
        clear hc hK hKo
        obtain ⟨j, hj, rfl, HB, hK⟩ := hrel
        by_cases hlj : j < k
        · have hji : (j : Int) < k := by omega
          have hjn : (j : Int) < n := by omega
          have hjn2 : j < n := by omega
          obtain ⟨_, _, e, hck⟩ := HI.out.keeps hK k hlt
          cases e
          obtain ⟨_, _, e, hcj⟩ := HI.out.keeps hK j hjn2
          cases e
          have HT := Lib.hid (show clash d k j = (decide (0 ≤ d k) && decide (0 ≤ d j) && (d k != d j)) from rfl)
          have HBAD : Hid (clash d k j = true → false = agrB n d) := Lib.hid (fun h => by
            unfold agrB
            rw [(anyB_iff (fun i => anyB (clash d i) i) n).2 ⟨k, hlt, (anyB_iff (clash d k) k).2 ⟨j, hlj, h⟩⟩]; rfl)
          have HGO : Hid (clash d k j = false → anyB (clash d k) (j + 1) = false) := Lib.hid (fun h => by rw [anyB, HB.out, h]; rfl)
          generalize d k = z at *
          generalize d j = v at *
          by_cases e1 : 0 ≤ z
          · by_cases e2 : 0 ≤ v
            · cases e3 : (z != v)
              · have HV := Lib.hid (HGO.out (by rw [HT.out, e3]; simp))
                go_wp2_with fail
                go_quiet (fail)
                go_wp2
                go_roundw
                case rel => exact ⟨j + 1, by omega, by go_num, HV, hK.step (Keeps.drewN _ _)⟩
                case measure => simp [intOf]; omega
              · have HV := Lib.hid (HBAD.out (by rw [HT.out, e3]; simp [e1, e2]))
                go_wp2_with fail
                go_quiet (fail)
                go_wp2
                go_ret
                exact ⟨ret_bool HV.out, hK.step (Keeps.drewN _ _)⟩
            · have HV := Lib.hid (HGO.out (by rw [HT.out]; simp [e2]))
              have e2' : v < 0 := by omega
              have e2'' : decide (0 ≤ v) = false := by simpa using e2'
              go_wp2_with fail
              go_quiet (fail)
              go_wp2
              go_roundw
              case rel => exact ⟨j + 1, by omega, by go_num, HV, hK.step (Keeps.drewN _ _)⟩
              case measure => simp [intOf]; omega
          · have HV := Lib.hid (HGO.out (by rw [HT.out]; simp [e1]))
            have e1' : z < 0 := by omega
            have e1'' : decide (0 ≤ z) = false := by simpa using e1'
            go_wp2_with fail
            go_quiet (fail)
            go_wp2
            go_roundw
            case rel => exact ⟨j + 1, by omega, by go_num, HV, hK.step (Keeps.drewN _ _)⟩
            case measure => simp [intOf]; omega
        · obtain rfl : j = k := by omega
          have HV : Hid (anyB (fun i => anyB (clash d i) i) (j + 1) = false) := Lib.hid (by rw [anyB, HA.out, HB.out]; rfl)
          go_wp2
          go_roundw
          case rel => exact ⟨j + 1, by omega, by go_num, HV, hK⟩
          case measure => simp [intOf]; omega
    · obtain rfl : k = n := by omega
      have HV : Hid (true = agrB k d) := Lib.hid (by unfold agrB; rw [HA.out]; rfl)
      go_wp2
      go_ret
      exact ⟨ret_bool HV.out, hK⟩
/-- What IsAgreed answers. -/
def isAgr (n : Nat) (x : Nat → Int) (m : Nat) (st : Nat → Int × Int × Int) (r : Int) : Bool := okB n x m st r && agrB n (dec n x m st r.toNat)
set_option maxRecDepth 100000 in
set_option maxHeartbeats 2000000 in
theorem isAgreed_any (I S : Option Addr) (n ci m cs : Nat) (r : Int) (x : Nat → Int) (st : Nat → Int × Int × Int) (w : World) (hn : n ≤ 1099511627776) (hm : m ≤ 1099511627776) (hI : Ints w I n x) (hS : Stops w S m st) :
    Calls Try.prog 37 #[.agg #[.slice I n ci, .slice S m cs], .int .i64 r] w fun e w' => e = .returned (.bool (isAgr n x m st r)) ∧ Keeps w w' := by
  have HI := Lib.hid hI
  have HS := Lib.hid hS
  have kk := Keeps.alloc w (.cells #[.slice I n ci, .slice S m cs] 26)
  clear hI hS
  cases h1 : okB n x m st r
  · have HV : Hid (false = isAgr n x m st r) := Lib.hid (by unfold isAgr; rw [h1]; rfl)
    have H1 := Lib.hid h1
    clear h1
    go_enter Try.func37, Try.ntmps37
    go_wp2_with fail
    refine (roundsOk_any I S n ci m cs x st r _ hn hm (HI.out.keeps kk) (HS.out.keeps kk)).mono ?_
    rintro e w1 ⟨rfl, hk1⟩
    rw [H1.out]
    go_wp2
    go_ret
    exact ⟨ret_bool HV.out, kk.step hk1⟩
  · obtain ⟨hrun, hr0, hr4⟩ := okB_true h1
    obtain ⟨R, rfl⟩ := Int.eq_ofNat_of_zero_le hr0
    have hR : R ≤ 4 := by omega
    have HV : Hid (agrB n (dec n x m st R) = isAgr n x m st R) := Lib.hid (by unfold isAgr; rw [h1]; rfl)
    have H1 := Lib.hid h1
    have HRUN := Lib.hid hrun
    clear h1 hrun
    go_enter Try.func37, Try.ntmps37
    go_wp2_with fail
    refine (roundsOk_any I S n ci m cs x st R _ hn hm (HI.out.keeps kk) (HS.out.keeps kk)).mono ?_
    rintro e w1 ⟨rfl, hk1⟩
    rw [H1.out]
    have hB1 := (Blk.new w #[.slice I n ci, .slice S m cs] 26).keeps hk1
    have b0 : w1.cell? ⟨w.heap.size, 0, none⟩ = some (.slice I n ci) := hB1.cell 0
    have b1 : w1.cell? ⟨w.heap.size, 1, none⟩ = some (.slice S m cs) := hB1.cell 1
    have hK1 := kk.step hk1
    go_wp2_with fail
    refine (agreed_any I S n ci m cs R x st _ hm hR (HI.out.keeps hK1) (HS.out.keeps hK1) HRUN.out).mono ?_
    rintro e w2 ⟨rfl, hk2⟩
    rw [HV.out]
    go_wp2
    go_ret
    exact ⟨rfl, hK1.step hk2⟩
set_option maxRecDepth 100000 in
set_option maxHeartbeats 2000000 in
theorem sisAgreed_any (I S : Option Addr) (n ci m cs : Nat) (r : Int) (x : Nat → Int) (st : Nat → Int × Int × Int) (w : World) (hn : n ≤ 1099511627776) (hm : m ≤ 1099511627776) (hI : Ints w I n x) (hS : Stops w S m st) :
    Calls Try.prog 38 #[.agg #[.slice I n ci, .slice S m cs], .int .i64 r] w fun e w' => e = .returned (.bool (isAgr n x m st r)) ∧ Keeps w w' := by
  have HI := Lib.hid hI
  have HS := Lib.hid hS
  have kk := Keeps.alloc w (.cells #[.slice I n ci, .slice S m cs] 26)
  clear hI hS
  cases h1 : runB n x m st
  · have HV : Hid (false = isAgr n x m st r) := Lib.hid (by unfold isAgr okB; rw [h1]; rfl)
    have H1 := Lib.hid h1
    clear h1
    go_enter Try.func38, Try.ntmps38
    go_wp2_with fail
    refine (svalidRun_any I S n ci m cs x st _ hn hm (HI.out.keeps kk) (HS.out.keeps kk)).mono ?_
    rintro e w1 ⟨rfl, hk1⟩
    rw [H1.out]
    go_wp2
    go_ret
    exact ⟨ret_bool HV.out, kk.step hk1⟩
  · have H1 := Lib.hid h1
    cases h2 : inB r 0 4
    · have HV : Hid (false = isAgr n x m st r) := Lib.hid (by unfold isAgr okB; rw [h1, h2]; rfl)
      have H2 := Lib.hid h2
      clear h1 h2
      go_enter Try.func38, Try.ntmps38
      go_wp2_with fail
      refine (svalidRun_any I S n ci m cs x st _ hn hm (HI.out.keeps kk) (HS.out.keeps kk)).mono ?_
      rintro e w1 ⟨rfl, hk1⟩
      rw [H1.out]
      go_wp2_with fail
      refine (inRange_any _ _ _ _).mono ?_
      rintro e w2 ⟨rfl, rfl⟩
      rw [H2.out]
      go_wp2
      go_ret
      exact ⟨ret_bool HV.out, kk.step hk1⟩
    · obtain ⟨hr0, hr4⟩ := inB_true h2
      obtain ⟨R, rfl⟩ := Int.eq_ofNat_of_zero_le hr0
      have hR : R ≤ 4 := by omega
      have HV : Hid (agrB n (dec n x m st R) = isAgr n x m st R) := Lib.hid (by unfold isAgr okB; rw [h1, h2]; rfl)
      have H2 := Lib.hid h2
      obtain ⟨hn1, hn4⟩ := runB_n h1
      clear h1 h2
      go_enter Try.func38, Try.ntmps38
      go_wp2_with fail
      refine (svalidRun_any I S n ci m cs x st _ hn hm (HI.out.keeps kk) (HS.out.keeps kk)).mono ?_
      rintro e w1 ⟨rfl, hk1⟩
      rw [H1.out]
      have hB1 := (Blk.new w #[.slice I n ci, .slice S m cs] 26).keeps hk1
      have b0 : w1.cell? ⟨w.heap.size, 0, none⟩ = some (.slice I n ci) := hB1.cell 0
      have b1 : w1.cell? ⟨w.heap.size, 1, none⟩ = some (.slice S m cs) := hB1.cell 1
      have hK1 := kk.step hk1
      go_wp2_with fail
      refine (inRange_any _ _ _ _).mono ?_
      rintro e w2 ⟨rfl, rfl⟩
      rw [H2.out]
      go_wp2_with fail
      refine (sdecisions_any I S n ci m cs R x st _ hm hR (HI.out.keeps hK1) (HS.out.keeps hK1) H1.out).mono ?_
      intro e w2 hA
      obtain ⟨A, c, rfl, hO, hk2⟩ := hA
      rw [il_len] at hO ⊢
      have hI2 : Ints w2 A n (dec n x m st R) := fun i hi => by
        obtain ⟨b, off, e, hc⟩ := hO.ints i hi
        exact ⟨b, off, e, by dsimp only at hc; rw [il_getD _ _ _ hi] at hc; exact hc⟩
      have HI2 := Lib.hid hI2
      clear hO hI2
      go_wp2_with fail
      refine (sagreed_any A n c (dec n x m st R) _ (by omega) HI2.out).mono ?_
      rintro e w3 ⟨rfl, hk3⟩
      rw [HV.out]
      go_wp2
      go_ret
      exact ⟨rfl, hK1.step (hk2.step hk3)⟩
end Go.Proofs.Ytepgogaoppdllaa
