/-
  The contract of WakeOf of the program. No condition.
-/
import Derived.Test.YtdjilgbcpdlkfaaTold
import Derived.Test.YtdjilgbcpdlkfaaMp
namespace Go.Proofs.Ytdjilgbcpdlkfaa
open Go.RowKit

/-- In how many rounds does word come to all? -1 for other arguments. -/
def wakeI (m : Nat) (L : Nat → Nat) (X : Nat → Nat → Int) (mm : Nat) (M : Nat → Int) (s : Int) : Int := if nodeB m L X mm M s then (wakeF L (portT X) m s.toNat : Nat) else -1
theorem tellR_lt {L : Nat → Nat} {T : Nat → Nat → Nat} {m : Nat} (hT : ∀ v p, v < m → p < L v → T v p < m) : ∀ r a x, a < 2 ^ m → tellR L T m r a x → x < 2 ^ m
  | 0, a, x, ha, h => by
    have e : x = a := h
    rw [e]; exact ha
  | r + 1, a, x, ha, ⟨b, hb, h⟩ => tellR_lt hT r b x (tell_lt hT (Nat.le_refl _) ha hb) h
/-- What the sets that were asked may become. -/
def askedP (L : Nat → Nat) (T : Nat → Nat → Nat) (m q s : Nat) (left : Nat → Prop) (z : Nat) : Prop := ∃ y, tellR L T m q s y ∧ ¬ left y ∧ z ∈ tellL L T m y m y
theorem asked_start (L : Nat → Nat) (T : Nat → Nat → Nat) (m q s : Nat) (z : Nat) : False ↔ askedP L T m q s (tellR L T m q s) z :=
  ⟨fun h => h.elim, fun ⟨_, h1, h2, _⟩ => h2 h1⟩
theorem asked_next (L : Nat → Nat) (T : Nat → Nat → Nat) (m q s y : Nat) (left : Nat → Prop) (hy : tellR L T m q s y) (z : Nat) : (askedP L T m q s left z ∨ ∃ i, i < (tellL L T m y m y).length ∧ z = (tellL L T m y m y).getD i 0) ↔ askedP L T m q s (fun x => left x ∧ x ≠ y) z := by
  constructor
  · rintro (⟨x, h1, h2, h3⟩ | ⟨i, hi, e⟩)
    · exact ⟨x, h1, fun h => h2 h.1, h3⟩
    · refine ⟨y, hy, fun h => h.2 rfl, ?_⟩
      rw [e, List.getD_eq_getElem?_getD, List.getElem?_eq_getElem hi]
      exact List.getElem_mem hi
  · rintro ⟨x, h1, h2, h3⟩
    by_cases e : x = y
    · subst e
      obtain ⟨i, hi, e⟩ := List.getElem_of_mem h3
      exact .inr ⟨i, hi, by rw [List.getD_eq_getElem?_getD, List.getElem?_eq_getElem hi]; exact e.symm⟩
    · exact .inl ⟨x, h1, fun h => h2 ⟨h, e⟩, h3⟩
theorem asked_end (L : Nat → Nat) (T : Nat → Nat → Nat) (m q s : Nat) {left : Nat → Prop} (h : ∀ y, ¬ left y) (z : Nat) : askedP L T m q s left z ↔ tellR L T m (q + 1) s z := by
  rw [tellR_back]
  exact ⟨fun ⟨y, h1, _, h3⟩ => ⟨y, h1, h3⟩, fun ⟨y, h1, h3⟩ => ⟨y, h1, h y, h3⟩⟩
theorem MSet.few {w : World} {b n : Nat} {p : Nat → Prop} (h : MSet w b n p) (B : Nat) (hp : ∀ y, p y → y < B) : MSet w b B p := by
  obtain ⟨D, h1, h2⟩ := h
  exact ⟨D, own_few h1 B (fun kl hk => by obtain ⟨y, e, hy⟩ := h2.only kl hk; exact ⟨y, e, hp y hy⟩) (pigeon B), h2⟩
theorem keeps_row {w0 w w' : World} {b : Nat} (h : Keeps w0 w) (g : w.grownBy w' (some b)) (hb : w0.heap.size ≤ b) : Keeps w0 w' := Below.grown h g h.size (fun k hk => by cases hk; exact hb)
section
variable {A B C : Option Addr} {m c mm d cc : Nat} {r : Nat → Option Addr × Nat × Nat} {L : Nat → Nat} {X : Nat → Nat → Int} {M : Nat → Int}
set_option maxRecDepth 100000 in
set_option maxHeartbeats 16000000 in
theorem iWakeOf_any (A B : Option Addr) (m c mm d : Nat) (r : Nat → Option Addr × Nat × Nat) (L : Nat → Nat) (X : Nat → Nat → Int) (M : Nat → Int) (s : Int) (w : World) (hN : NetAt w A m r B mm L X M) :
    Calls Try.prog 34 #[.agg #[.slice A m c, .slice B mm d], .int .i64 s] w fun e w' => e = .returned (.int .i64 (wakeI m L X mm M s)) ∧ Keeps w w' := by
  have kA := Keeps.alloc w (.cells #[.slice A m c, .slice B mm d] 27)
  have hB := Blk.new w #[.slice A m c, .slice B mm d] 27
  have d0 : (w.alloc (.cells #[.slice A m c, .slice B mm d] 27)).cell? ⟨w.heap.size, 0, none⟩ = some (.slice A m c) := hB.cell 0
  have d1 : (w.alloc (.cells #[.slice A m c, .slice B mm d] 27)).cell? ⟨w.heap.size, 1, none⟩ = some (.slice B mm d) := hB.cell 1
  have CC := Lib.hid (nodeIn_any A B m c mm d r L X M s _ (hN.keeps kA))
  have HN := Lib.hid (hN.keeps kA)
  clear hN hB
  cases v1 : nodeB m L X mm M s
  · have HV : Hid (-1 = wakeI m L X mm M s) := Lib.hid (by unfold wakeI; rw [v1]; rfl)
    have V1 := Lib.hid v1
    clear v1
    go_enter Try.func34, Try.ntmps34
    go_wp2_with fail
    refine CC.out.mono ?_
    rintro e w1 ⟨rfl, hk1⟩
    rw [V1.out]
    go_wp2
    go_ret
    exact ⟨ret_int HV.out, kA.step hk1⟩
  · obtain ⟨hv, k, rfl, hkm⟩ := node_true v1
    have ok := net_true hv
    have hm6 := ok.hi
    have hmb := HN.out.mb
    have HV : Hid ((wakeF L (portT X) m k : Nat) = wakeI m L X mm M k) := Lib.hid (by unfold wakeI; rw [v1]; rfl)
    have V1 := Lib.hid v1
    have HOK := Lib.hid ok
    have HLT := Lib.hid (wake_lt ok.node ok.back ok.reach hkm)
    have HAT := Lib.hid (wakeR_at ok.node ok.back ok.reach hkm)
    have HBE := Lib.hid (fun (q : Nat) (h : q < wakeF L (portT X) m k) => wakeR_before (L := L) (T := portT X) (m := m) h)
    have hp2 : 2 ^ k < 2 ^ m := Nat.pow_lt_pow_right (by omega) hkm
    have HTL := Lib.hid (fun (q x : Nat) (h : tellR L (portT X) m q (2 ^ k) x) => tellR_lt ok.node q _ x hp2 h)
    have HP64 : Hid (2 ^ m ≤ 64) := Lib.hid (Nat.le_trans (Nat.pow_le_pow_right (by omega) hm6) (by decide))
    have HP1 : Hid (1 ≤ 2 ^ m) := Lib.hid (Nat.two_pow_pos m)
    have HP2 := Lib.hid hp2
    have HWK := Lib.hid (wrapPow k (by omega))
    have HWM := Lib.hid (wrapPow m (by omega))
    have hki : (k : Int) < 64 := by omega
    have hmi : (m : Int) < 64 := by omega
    clear v1 ok hv hp2
    generalize hw0 : w.alloc (.cells #[.slice A m c, .slice B mm d] 27) = w0 at *
    generalize hbx : w.heap.size = bx at *
    have HW0 := Lib.hid hw0
    have HBX := Lib.hid hbx
    have HKA := Lib.hid kA
    have CT : Hid (∀ (x : Nat) w', x < 2 ^ m → Keeps w0 w' → Calls Try.prog 64 #[.slice A m c, .int .i64 x, .int .i64 x, .int .i64 0] w' (GiveN (tellL L (portT X) m x m x) w')) := Lib.hid (fun x w' hx hK => told_any (c := c) x m 0 x w' (by omega) hx hx (HN.out.keeps hK) HOK.out)
    clear hw0 hbx kA
    have hmk := @run_makeMap Try.prog
    go_enter Try.func34, Try.ntmps34
    go_upto_region 1 with fail
    rw [HBX.out, HW0.out]
    go_wp2_with fail
    refine CC.out.mono ?_
    rintro e w1 ⟨rfl, hk1⟩
    rw [V1.out]
    have hS1 := Lib.hid (MSet.made w1)
    go_wp2_with (first | (refine wp_store rfl _ _ _ (.inr rfl) rfl hS1.out (by omega) _ rfl rfl (2 ^ k) HWK.out (by have := HP2.out; have := HP64.out; omega) ?_; intro w2 hS2 hg2))
    have HS2 : Hid (MSet w2 w1.heap.size 64 (tellR L (portT X) m 0 (2 ^ k))) := Lib.hid ((hS2.congr (q := tellR L (portT X) m 0 (2 ^ k)) (fun y => by show (False ∨ y = 2 ^ k) ↔ y = 2 ^ k; simp)).few 64 (fun y hy => Nat.lt_of_lt_of_le (HTL.out 0 y hy) HP64.out))
    have HK2 := Lib.hid (keeps_row (hk1.step (Keeps.alloc _ _)) hg2 hk1.size)
    have HZ1 := Lib.hid hk1.size
    generalize w1.heap.size = b0 at *
    clear hS1 hS2 hg2 hk1
    go_wp2_with fail
    go_loopw [6, 5] (fun i sv wr => ∃ (q b : Nat), i = .int .i64 q ∧ sv = .map (some b) ∧ Hid (q ≤ wakeF L (portT X) m k) ∧ q ≤ 6 ∧ Hid (MSet wr b 64 (tellR L (portT X) m q (2 ^ k))) ∧ Hid (w0.heap.size ≤ b) ∧ Hid (Keeps w0 wr)) (fun i _ _ => 7 - (intOf i).toNat)
    case atStart => exact ⟨0, b0, rfl, rfl, Lib.hid (Nat.zero_le _), by omega, HS2, HZ1, HK2⟩
    case round =>
      clear HS2 HZ1 HK2
      obtain ⟨q, b, rfl, rfl, HQ, hq6, HS, HZ, HK⟩ := hrel
      have g0 := cell_keeps HK.out d0
      have hwm0 : 0 ≤ wrap64 ((2 : Int) ^ m) := by rw [HWM.out]; exact Int.natCast_nonneg _
      have hwm1 : wrap64 ((2 : Int) ^ m) ≤ 64 := by have := HP64.out; rw [HWM.out]; omega
      by_cases e : q = wakeF L (portT X) m k
      · have HE := Lib.hid e
        have HIN : Hid (∀ cc : Bool, (cc = true ↔ tellR L (portT X) m q (2 ^ k) (2 ^ m - 1)) → cc = true) := Lib.hid (fun cc h => h.2 (by rw [HE.out]; exact HAT.out))
        clear e
        go_wp2_with (first | (refine wp_look rfl _ _ rfl rfl HS.out _ rfl (2 ^ m - 1) (by rw [HWM.out]; have := HP1.out; omega) (by have := HP64.out; omega) ?_; intro cc hcc; obtain rfl := HIN.out cc hcc; clear hcc))
        go_ret
        exact ⟨ret_int (by rw [HE.out]; exact HV.out), HKA.out.step HK.out⟩
      · have HQ1 : Hid (q + 1 ≤ wakeF L (portT X) m k ∧ q + 1 ≤ 6) := Lib.hid (by have := HQ.out; have := HLT.out; omega)
        have HIN : Hid (∀ cc : Bool, (cc = true ↔ tellR L (portT X) m q (2 ^ k) (2 ^ m - 1)) → cc = false) := Lib.hid (fun cc h => by
          cases cc
          · rfl
          · exact absurd (h.1 rfl) (HBE.out q (by have := HQ.out; omega)))
        clear e
        go_wp2_with (first | (refine wp_look rfl _ _ rfl rfl HS.out _ rfl (2 ^ m - 1) (by rw [HWM.out]; have := HP1.out; omega) (by have := HP64.out; omega) ?_; intro cc hcc; obtain rfl := HIN.out cc hcc; clear hcc) | (at_range; refine wp_range rfl _ rfl rfl (HS.out.keeps (Keeps.alloc _ _)) ?_; intro w4 cnt4 hR4 hk4 hz4))
        go_frame
        have hbw := HS.out.lt
        have HN4 : Hid (MSet w4 wr.heap.size 64 (askedP L (portT X) m q (2 ^ k) (tellR L (portT X) m q (2 ^ k)))) := Lib.hid (((MSet.made wr).keeps hk4).congr (asked_start L (portT X) m q (2 ^ k)) |>.few 64 (fun y hy => absurd ((asked_start L (portT X) m q (2 ^ k) y).2 hy) id))
        have HR4 := Lib.hid hR4
        have HK4 := Lib.hid (HK.out.step ((Keeps.alloc wr _).step hk4))
        have HZ4 := Lib.hid HK.out.size
        have hrr : (wr.alloc (.map #[] 0)).heap.size = wr.heap.size + 1 := by simp
        rw [hrr] at HR4 ⊢
        clear hR4 hk4 hz4 hrr
        generalize hbn : wr.heap.size = bn at *
        have hbb : b < bn := by omega
        clear hbn hbw
        go_loopw [8] (fun _ wi => ∃ (left : Nat → Prop) (cnt : Nat), Hid (MRange wi b (bn + 1) 64 (tellR L (portT X) m q (2 ^ k)) left cnt) ∧ Hid (MSet wi bn 64 (askedP L (portT X) m q (2 ^ k) left)) ∧ Hid (Keeps w0 wi)) (fun _ wi => wi.rangeLeft b (bn + 1))
        case atStart => exact ⟨_, cnt4, HR4, HN4, HK4⟩
        case round =>
          clear HR4 HN4 HK4 HS HK g0
          have HZB : Hid (w0.heap.size ≤ bn + 1) := Lib.hid (by have := HZ4.out; omega)
          obtain ⟨left, cnt, HR, HM, HK⟩ := hrel
          go_wp2_with (first | (at_next; refine wp_nextH rfl _ rfl rfl HR.out (fun hdone => ?_) (fun y cc w5 cnt5 H5 hen => have g5 : w5.cell? ⟨bx, 0, none⟩ = some (.slice A m c) := cell_keeps (keeps_row HK.out H5.out.2.2.2 HZB.out) d0; ?_)))
          · have HM1 : Hid (MSet wr bn 64 (tellR L (portT X) m (q + 1) (2 ^ k))) := Lib.hid (HM.out.congr (asked_end L (portT X) m q (2 ^ k) hdone.out))
            clear hdone
            go_wp2_with fail
            go_roundw
            case rel => exact ⟨q + 1, bn, by go_num, rfl, Lib.hid HQ1.out.1, HQ1.out.2, HM1, HZ4, HK⟩
            case measure => simp [intOf]; omega
          · obtain ⟨hp, hR5, hlt5, hg5⟩ := H5.out
            have HY := Lib.hid hp
            have HR5 := Lib.hid hR5
            have HL5 := Lib.hid hlt5
            have HK5 := Lib.hid (keeps_row HK.out hg5 (by have := HZ4.out; omega))
            have HM5 := Lib.hid (HM.out.kept hg5 (by simp))
            have hbr : bn + 1 < w5.heap.size := hR5.lt
            clear hp hR5 hlt5 hg5 H5
            go_wp2_with fail
            refine (CT.out y w5 (HTL.out q y HY.out) HK5.out).mono ?_
            rintro e w6 ⟨g, c6, rfl, hO6, hk6⟩
            have hlen := (tell_len (L := L) (portT X) (m := m) (fun v hv => Nat.le_trans (net_deg HOK.out v hv) hm6) y m y (Nat.le_refl _)).2.1
            have hlen7 := pow7 hm6
            have HBD : Hid (∀ z, (askedP L (portT X) m q (2 ^ k) left z ∨ ∃ i, i < (tellL L (portT X) m y m y).length ∧ z = (tellL L (portT X) m y m y).getD i 0) → z < 64) := Lib.hid (fun z hz => by
              obtain ⟨x, h1, _, h3⟩ := (asked_next L (portT X) m q (2 ^ k) y left HY.out z).1 hz
              exact Nat.lt_of_lt_of_le (HTL.out (q + 1) z ((tellR_back L (portT X) m q _ _).2 ⟨x, h1, h3⟩)) HP64.out)
            have HM6 : Hid (MSet w6 bn 64 (fun z => askedP L (portT X) m q (2 ^ k) left z ∨ ∃ i, i < 0 ∧ z = (tellL L (portT X) m y m y).getD i 0)) := Lib.hid ((HM5.out.keeps hk6).congr (fun z => ⟨fun h => .inl h, fun h => by
              rcases h with h | ⟨i, hi, _⟩
              · exact h
              · omega⟩))
            have HR6 := Lib.hid (HR5.out.keeps hk6)
            have HO6 := Lib.hid hO6
            have HK6 := Lib.hid (HK5.out.step hk6)
            have HNX := Lib.hid (asked_next L (portT X) m q (2 ^ k) y left HY.out)
            have hln : (tellL L (portT X) m y m y).length ≤ 117649 := Nat.le_trans hlen hlen7
            generalize tellL L (portT X) m y m y = l at *
            clear hO6 hk6 HM5 HR5 HK5 hlen hlen7 hen g5
            go_wp2_with fail
            go_loopw [42] (fun i wi => ∃ p : Nat, p ≤ l.length ∧ i = .int .i64 p ∧ Hid (MSet wi bn 64 (fun z => askedP L (portT X) m q (2 ^ k) left z ∨ ∃ i, i < p ∧ z = l.getD i 0)) ∧ Hid (MRange wi b (bn + 1) 64 (tellR L (portT X) m q (2 ^ k)) (fun z => left z ∧ z ≠ y) cnt5) ∧ Hid (OwnInts wi w5.heap.size (some ⟨g, 0, none⟩) l.length c6 (nl l)) ∧ Hid (Keeps w0 wi)) (fun i _ => l.length - (intOf i).toNat)
            case atStart => exact ⟨0, by omega, rfl, HM6, HR6, HO6, HK6⟩
            case round =>
              clear HM6 HR6 HO6 HK6
              obtain ⟨p, hp, rfl, HM6, HR6, HO6, HK6⟩ := hrel
              by_cases hlt : p < l.length
              · have hpi : (p : Int) < l.length := by omega
                have hc := HO6.out.cell p hlt
                have hgd : (nl l).getD p 0 = ((l.getD p 0 : Nat) : Int) := by simp [nl, hlt]
                rw [hgd] at hc
                have HZ := Lib.hid (fun (h : l.getD p 0 < 9223372036854775808) => h)
                have HB1 : Hid (l.getD p 0 < 64) := Lib.hid (HBD.out _ (.inr ⟨p, hlt, rfl⟩))
                have HP1 : Hid (∀ z, ((askedP L (portT X) m q (2 ^ k) left z ∨ ∃ i, i < p ∧ z = l.getD i 0) ∨ z = l.getD p 0) ↔ (askedP L (portT X) m q (2 ^ k) left z ∨ ∃ i, i < p + 1 ∧ z = l.getD i 0)) := Lib.hid (fun z => by
                  constructor
                  · rintro ((h | ⟨i, hi, e⟩) | e)
                    · exact .inl h
                    · exact .inr ⟨i, by omega, e⟩
                    · exact .inr ⟨p, by omega, e⟩
                  · rintro (h | ⟨i, hi, e⟩)
                    · exact .inl (.inl h)
                    · by_cases ei : i = p
                      · rw [ei] at e; exact .inr e
                      · exact .inl (.inr ⟨i, by omega, e⟩))
                have HB2 : Hid (∀ z, (askedP L (portT X) m q (2 ^ k) left z ∨ ∃ i, i < p + 1 ∧ z = l.getD i 0) → z < 64) := Lib.hid (fun z hz => HBD.out z (by
                  rcases hz with h | ⟨i, hi, e⟩
                  · exact .inl h
                  · exact .inr ⟨i, by omega, e⟩))
                clear hgd
                generalize l.getD p 0 = v at *
                go_wp2_with (first | (refine wp_store rfl _ _ _ (.inl rfl) rfl HM6.out (by omega) _ rfl rfl v rfl (by have := HB1.out; omega) ?_; intro w7 hS7 hg7; have HM7 := Lib.hid ((hS7.congr HP1.out).few 64 HB2.out); have HR7 := Lib.hid (HR6.out.kept hg7 (by simp; omega) (by simp)); have HO7 : Hid (OwnInts w7 w5.heap.size (some ⟨g, 0, none⟩) l.length c6 (nl l)) := Lib.hid (own_kept HO6.out hg7 (fun kk hkk e => by have := (own_block HO6.out kk hkk).1; simp at e; omega)); have HK7 := Lib.hid (keeps_row HK6.out hg7 HZ4.out); clear hS7 hg7))
                go_roundw
                case rel => exact ⟨p + 1, by omega, by go_num, HM7, HR7, HO7, HK7⟩
                case measure => simp [intOf]; omega
              · obtain rfl : p = l.length := by omega
                go_wp2_with fail
                go_roundw
                case rel => exact ⟨_, cnt5, HR6, Lib.hid (HM6.out.congr HNX.out), HK6⟩
                case measure => rw [HR6.out.left_eq, HR.out.left_eq]; exact HL5.out
end
end Go.Proofs.Ytdjilgbcpdlkfaa
