/-
  The contract of told of the program: all sets of nodes that may have word behind a round. Condition: a valid net.
-/
import Derived.Test.YtdjilgbcpdlkfaaWake
import Derived.Test.YtdjilgbcpdlkfaaFlood
namespace Go.Proofs.Ytdjilgbcpdlkfaa
open Go.RowKit

theorem testBit_zero (s n : Nat) (hs : s < 9223372036854775808) : (bits .and .i64 ((s : Int) / 2 ^ n) 1 == 0) = !s.testBit n := by
  have h := bits_and (s / 2 ^ n) 1 (Nat.lt_of_le_of_lt (Nat.div_le_self _ _) hs) (by omega)
  rw [← shr_bit, show (1 : Int) = ((1 : Nat) : Int) from rfl, h]
  rw [Nat.testBit_eq_decide_div_mod_eq, Nat.and_one_is_mod, Bool.eq_iff_iff, beq_iff_eq, Bool.not_eq_true', decide_eq_false_iff_not]
  generalize s / 2 ^ n = q
  omega
theorem lt_63 {m x : Nat} (h6 : m ≤ 6) (hx : x < 2 ^ m) : x < 64 := Nat.lt_of_lt_of_le hx (Nat.le_trans (Nat.pow_le_pow_right (by omega) h6) (by omega))
/-- What the first p ports of node v add. -/
def portsL (L : Nat → Nat) (T : Nat → Nat → Nat) (m a k x p : Nat) : List Nat := (List.range p).flatMap (fun p => if x.testBit (T (m - (k + 1)) p) then [] else tellL L T m a k (x ||| 2 ^ T (m - (k + 1)) p))
theorem ports_has (L : Nat → Nat) (T : Nat → Nat → Nat) (m a k x p : Nat) (h : x.testBit (T (m - (k + 1)) p) = true) : portsL L T m a k x (p + 1) = portsL L T m a k x p := by
  unfold portsL
  rw [List.range_succ, List.flatMap_append]
  simp [h]
theorem ports_not (L : Nat → Nat) (T : Nat → Nat → Nat) (m a k x p : Nat) (h : x.testBit (T (m - (k + 1)) p) = false) : portsL L T m a k x (p + 1) = portsL L T m a k x p ++ tellL L T m a k (x ||| 2 ^ T (m - (k + 1)) p) := by
  unfold portsL
  rw [List.range_succ, List.flatMap_append]
  simp [h]
theorem tell_len {L : Nat → Nat} (T : Nat → Nat → Nat) {m : Nat} (hL : ∀ v, v < m → L v ≤ 6) (a : Nat) : ∀ k x, k ≤ m → 1 ≤ (tellL L T m a k x).length ∧ (tellL L T m a k x).length ≤ 7 ^ k ∧ ∀ p, p ≤ 6 → k + 1 ≤ m → (tellL L T m a k x).length + (portsL L T m a k x p).length ≤ 7 ^ k * (p + 1) := by
  have ports : ∀ k, (∀ x, (tellL L T m a k x).length ≤ 7 ^ k) → ∀ x p, (portsL L T m a k x p).length ≤ 7 ^ k * p := by
    intro k h x p
    induction p with
    | zero => simp [portsL]
    | succ p ih =>
      rw [Nat.mul_succ]
      cases e : x.testBit (T (m - (k + 1)) p)
      · rw [ports_not _ _ _ _ _ _ _ e, List.length_append]
        have := h (x ||| 2 ^ T (m - (k + 1)) p)
        exact Nat.add_le_add ih this
      · rw [ports_has _ _ _ _ _ _ _ e]
        exact Nat.le_trans ih (Nat.le_add_right _ _)
  intro k
  induction k with
  | zero =>
    intro x _
    refine ⟨by simp [tellL], by simp [tellL], fun p hp _ => ?_⟩
    have := ports 0 (fun x => by simp [tellL]) x p
    rw [Nat.mul_succ]
    simp only [tellL, List.length_singleton, Nat.pow_zero] at this ⊢
    omega
  | succ k ih =>
    have hle : ∀ x, k + 1 ≤ m → (tellL L T m a (k + 1) x).length ≤ 7 ^ (k + 1) ∧ 1 ≤ (tellL L T m a (k + 1) x).length := fun x hk => by
      have h2 : ∀ x, (tellL L T m a k x).length ≤ 7 ^ k := fun x => (ih x (by omega)).2.1
      have h1 := (ih x (by omega)).1
      cases e : a.testBit (m - (k + 1))
      · rw [tell_skip _ _ _ _ _ _ e, Nat.pow_succ]
        have := h2 x
        omega
      · rw [tell_ask _ _ _ _ _ _ e, List.length_append]
        have h3 := ports k h2 x (L (m - (k + 1)))
        have h4 := Nat.mul_le_mul_left (7 ^ k) (hL (m - (k + 1)) (by omega))
        have := h2 x
        unfold portsL at h3
        rw [Nat.pow_succ]
        omega
    intro x hk
    refine ⟨(hle x hk).2, (hle x hk).1, fun p hp hk2 => ?_⟩
    have := ports (k + 1) (fun x => (hle x hk).1) x p
    have := (hle x hk).1
    rw [Nat.mul_succ]
    omega
theorem pow7 {k : Nat} (h : k ≤ 6) : 7 ^ k ≤ 117649 := Nat.le_trans (Nat.pow_le_pow_right (by omega) h) (by decide)
theorem nl_len (l : List Nat) : (nl l).length = l.length := by simp [nl]
theorem nl_add (l l' : List Nat) : nl l ++ nl l' = nl (l ++ l') := by simp [nl]
/-- Gives the numbers of a list that is not empty. -/
def GiveN (l : List Nat) (w : World) (e : Ending) (w' : World) : Prop :=
  ∃ (g c : Nat), e = .returned (.slice (some ⟨g, 0, none⟩) l.length c) ∧ OwnInts w' w.heap.size (some ⟨g, 0, none⟩) l.length c (nl l) ∧ Keeps w w'
section
variable {A B C : Option Addr} {m c mm d cc : Nat} {r : Nat → Option Addr × Nat × Nat} {L : Nat → Nat} {X : Nat → Nat → Int} {M : Nat → Int}
set_option maxRecDepth 100000 in
set_option maxHeartbeats 16000000 in
theorem told_any (a : Nat) (k : Nat) : ∀ (node x : Nat) (w : World), node + k = m → a < 2 ^ m → x < 2 ^ m → NetAt w A m r B mm L X M → NetOk m L X mm M →
    Calls Try.prog 64 #[.slice A m c, .int .i64 a, .int .i64 x, .int .i64 node] w (GiveN (tellL L (portT X) m a k x) w) := by
  induction k using Nat.strongRecOn with
  | ind k ih =>
    intro node x w hk ha hx hN ok
    have hm6 := ok.hi
    have hmb := hN.mb
    have ha64 := lt_63 hm6 ha
    have hx64 := lt_63 hm6 hx
    have HLEN := Lib.hid (tell_len (L := L) (portT X) (m := m) (fun v hv => Nat.le_trans (net_deg ok v hv) hm6) a)
    have HTB := Lib.hid (fun (i : Nat) => testBit_zero a i (by omega))
    have HXB := Lib.hid (fun (i : Nat) => testBit_zero x i (by omega))
    have HIH := Lib.hid ih
    have HN := Lib.hid hN
    have HOK := Lib.hid ok
    have HMK : Hid (m - node = k) := Lib.hid (by omega)
    have HX := Lib.hid hx
    have HA := Lib.hid ha
    have hnode : node ≤ m := by omega
    clear ih hN ok hk hx ha
    go_enter Try.func64, Try.ntmps64
    go_wp2_with fail
    go_loop [3] (fun i => ∃ j : Nat, node ≤ j ∧ j ≤ m ∧ i = .int .i64 j ∧ Hid (tellL L (portT X) m a (m - node) x = tellL L (portT X) m a (m - j) x)) (fun i => m - (intOf i).toNat)
    case atStart => exact ⟨node, by omega, hnode, rfl, Lib.hid rfl⟩
    case round =>
      obtain ⟨j, hnj, hjm, rfl, HE⟩ := hrel
      by_cases hlt : j < m
      · have hji : (j : Int) < m := by omega
        have hjne : ((j : Int) == m) = false := by simp; omega
        have hjb : (j : Int) < 64 := by omega
        cases e : a.testBit j
        · have hb : (bits .and .i64 ((a : Int) / 2 ^ j) 1 == 0) = true := by rw [HTB.out j, e]; rfl
          have HNX : Hid (tellL L (portT X) m a (m - node) x = tellL L (portT X) m a (m - (j + 1)) x) := Lib.hid (by
            rw [HE.out]
            obtain ⟨q, hq⟩ : ∃ q, m - j = q + 1 := ⟨m - j - 1, by omega⟩
            rw [hq, tell_skip _ _ _ _ _ _ (by rw [show m - (q + 1) = j by omega]; exact e), show m - (j + 1) = q by omega])
          clear e
          go_wp2_with fail
          go_round
          case rel => exact ⟨j + 1, by omega, by omega, by go_num, HNX⟩
          case measure => simp [intOf]; omega
        · have hb : (bits .and .i64 ((a : Int) / 2 ^ j) 1 == 0) = false := by rw [HTB.out j, e]; rfl
          have E := Lib.hid e
          clear e
          obtain ⟨q, hq⟩ : ∃ q, m - j = q + 1 := ⟨m - j - 1, by omega⟩
          have HEQ : Hid (tellL L (portT X) m a k x = tellL L (portT X) m a q x ++ portsL L (portT X) m a q x (L j)) := Lib.hid (by
            rw [← HMK.out, HE.out, hq, tell_ask _ _ _ _ _ _ (by rw [show m - (q + 1) = j by omega]; exact E.out), show m - (q + 1) = j by omega]
            unfold portsL
            rw [show m - (q + 1) = j by omega])
          have hqk : q < k := by have := HMK.out; omega
          have hqm : q + 1 ≤ m := by omega
          have hjq : j + 1 + q = m := by omega
          have HPL : Hid (∀ p, portT X (m - (q + 1)) p = portT X j p) := Lib.hid (fun p => by rw [show m - (q + 1) = j by omega])
          have HLE := Lib.hid (HLEN.out q x (by omega))
          have HP7 := Lib.hid (pow7 (k := q) (by omega))
          obtain ⟨⟨bA, oA, rfl, hcV⟩, hrowV⟩ := HN.out.rows j hlt
          have hlv := HN.out.len j hlt
          have hcapv := HN.out.cap j hlt
          obtain ⟨va, vn, vc, hrv⟩ : ∃ va vn vc, r j = (va, vn, vc) := ⟨_, _, _, rfl⟩
          rw [hrv] at hcV hlv hcapv hrowV
          dsimp only at hcV hlv hcapv hrowV
          have HRV := Lib.hid hrowV
          have HLV := Lib.hid hlv
          have hvn6 : vn ≤ 6 := by have := net_deg HOK.out j hlt; omega
          have CI := Lib.hid (fun (y : Nat) (w' : World) (hy : y < 2 ^ m) (hkk : Keeps w w') => HIH.out q hqk (j + 1) y w' hjq HA.out hy (HN.out.keeps hkk) HOK.out)
          have HW : Hid ((((j + 1 : Nat)) : Int) = (j : Int) + 1) := Lib.hid (by omega)
          rw [HW.out] at CI
          have HCV := Lib.hid hcV
          clear hrowV hlv hrv hq hqk hjq hcV
          go_wp2_with fail
          refine (CI.out x _ HX.out (Keeps.refl _)).mono ?_
          rintro e w1 ⟨g1, c1, rfl, hO1, hk1⟩
          have hc1 := cell_keeps hk1 HCV.out
          have HO1 : Hid (OwnInts w1 w.heap.size (some ⟨g1, 0, none⟩) (tellL L (portT X) m a q x).length c1 (nl (tellL L (portT X) m a q x ++ portsL L (portT X) m a q x 0))) := Lib.hid (by
            rw [show portsL L (portT X) m a q x 0 = [] from rfl, List.append_nil]; exact hO1)
          have HK1 := Lib.hid hk1
          have HN1 : Hid ((tellL L (portT X) m a q x).length = (tellL L (portT X) m a q x ++ portsL L (portT X) m a q x 0).length) := Lib.hid (by rw [show portsL L (portT X) m a q x 0 = [] from rfl, List.append_nil])
          clear hO1 hk1
          go_wp2_with fail
          go_loopw [42, 9] (fun i o wi => ∃ (p g n c' : Nat), p ≤ vn ∧ i = .int .i64 p ∧ o = .slice (some ⟨g, 0, none⟩) n c' ∧ Hid (n = (tellL L (portT X) m a q x ++ portsL L (portT X) m a q x p).length) ∧ Hid (OwnInts wi w.heap.size (some ⟨g, 0, none⟩) n c' (nl (tellL L (portT X) m a q x ++ portsL L (portT X) m a q x p))) ∧ Hid (Keeps w wi)) (fun i _ _ => vn - (intOf i).toNat)
          case atStart => exact ⟨0, g1, _, c1, by omega, rfl, rfl, HN1, HO1, HK1⟩
          case round =>
            clear hc1 HO1 HK1 HN1
            obtain ⟨p, g, n, c', hp, rfl, rfl, HNN, HO, HK⟩ := hrel
            by_cases hltp : p < vn
            · have hpi : (p : Int) < vn := by omega
              obtain ⟨bR, oR, rfl, hcX⟩ := HRV.out p hltp
              have hX := HOK.out.port j p hlt (by rw [← HLV.out]; exact hltp)
              have hu := HOK.out.node j p hlt (by rw [← HLV.out]; exact hltp)
              rw [hX] at hcX
              have hcX2 := cell_keeps HK.out hcX
              have hub : (portT X j p : Int) < 64 := by omega
              have HT2 := Lib.hid (HXB.out (portT X j p))
              have HHAS := Lib.hid (ports_has L (portT X) m a q x p)
              have HNOT := Lib.hid (ports_not L (portT X) m a q x p)
              rw [HPL.out p] at HHAS HNOT
              clear hcX hX
              cases e : x.testBit (portT X j p)
              · have hb2 : (bits .and .i64 ((x : Int) / 2 ^ portT X j p) 1 == 0) = true := by rw [HT2.out, e]; rfl
                have HEP := Lib.hid (HNOT.out e)
                have HY : Hid (x ||| 2 ^ portT X j p < 2 ^ m) := Lib.hid (Nat.or_lt_two_pow HX.out (Nat.pow_lt_pow_right (by omega) hu))
                have HOR := Lib.hid (bits_or x (2 ^ portT X j p) (by omega) (pow_lt63 _ (by omega)))
                have HWP := Lib.hid (wrapPow (portT X j p) (by omega))
                have HLY := Lib.hid (HLEN.out q (x ||| 2 ^ portT X j p) (by omega))
                have CY := Lib.hid (CI.out (x ||| 2 ^ portT X j p) wr HY.out HK.out)
                rw [← HOR.out, ← HWP.out] at CY
                clear e HNOT HHAS HT2
                generalize portT X j p = u at *
                go_wp2_with fail
                refine CY.out.mono ?_
                rintro e w2 ⟨g2, c2, rfl, hO2, hk2⟩
                have HO2 := Lib.hid hO2
                have HOX := Lib.hid (HO.out.keeps hk2)
                have HK2 := Lib.hid (HK.out.step hk2)
                have hbnd : n + (tellL L (portT X) m a q (x ||| 2 ^ u)).length ≤ 1099511627776 := by
                  have h1 := HNN.out
                  rw [List.length_append] at h1
                  have h2 := HLE.out.2.2 p (by omega) (by omega)
                  have h3 := HLY.out.2.1
                  have h4 := HP7.out
                  have h5 := Nat.mul_le_mul h4 (show p + 1 ≤ 7 by omega)
                  omega
                have hone : 1 ≤ n + (tellL L (portT X) m a q (x ||| 2 ^ u)).length := by have := HLY.out.1; omega
                clear hO2 hk2
                have hsz := HK2.out.size
                go_wp2_with (first | (at_builtin; refine wp_spread_int rfl _ _ rfl w.heap.size (some ⟨g, 0, none⟩) n c' (nl (tellL L (portT X) m a q x ++ portsL L (portT X) m a q x p)) _ rfl HOX.out g2 0 (tellL L (portT X) m a q (x ||| 2 ^ u)).length c2 (fun i => (nl (tellL L (portT X) m a q (x ||| 2 ^ u))).getD i 0) rfl (fun i hi => by rw [Nat.zero_add]; exact HO2.out.cell i hi) hbnd hone hsz ?_; intro g6 c6 w6 hO6 hg6))
                have HO6 : Hid (OwnInts w6 w.heap.size (some ⟨g6, 0, none⟩) (n + (tellL L (portT X) m a q (x ||| 2 ^ u)).length) c6 (nl (tellL L (portT X) m a q x ++ portsL L (portT X) m a q x (p + 1)))) := Lib.hid (by
                  have e1 := il_self (nl (tellL L (portT X) m a q (x ||| 2 ^ u))) _ (nl_len _)
                  unfold il at e1
                  rw [e1, nl_add, List.append_assoc, ← HEP.out] at hO6
                  exact hO6)
                have HN6 : Hid (n + (tellL L (portT X) m a q (x ||| 2 ^ u)).length = (tellL L (portT X) m a q x ++ portsL L (portT X) m a q x (p + 1)).length) := Lib.hid (by
                  rw [HEP.out, ← List.append_assoc, List.length_append, ← HNN.out])
                have HK6 : Hid (Keeps w w6) := Lib.hid (HK2.out.grown HOX.out (Nat.le_refl _) hg6)
                clear hO6 hg6
                go_wp2_with fail
                go_roundw
                case rel => exact ⟨p + 1, g6, _, c6, by omega, by go_num, rfl, HN6, HO6, HK6⟩
                case measure => simp [intOf]; omega
              · have hb2 : (bits .and .i64 ((x : Int) / 2 ^ portT X j p) 1 == 0) = false := by rw [HT2.out, e]; rfl
                have HEP := Lib.hid (HHAS.out e)
                have HO6 : Hid (OwnInts wr w.heap.size (some ⟨g, 0, none⟩) n c' (nl (tellL L (portT X) m a q x ++ portsL L (portT X) m a q x (p + 1)))) := Lib.hid (by rw [HEP.out]; exact HO.out)
                have HN6 : Hid (n = (tellL L (portT X) m a q x ++ portsL L (portT X) m a q x (p + 1)).length) := Lib.hid (by rw [HEP.out]; exact HNN.out)
                clear e HNOT HHAS HT2 HO HNN
                generalize portT X j p = u at *
                go_wp2_with fail
                go_roundw
                case rel => exact ⟨p + 1, g, n, c', by omega, by go_num, rfl, HN6, HO6, HK⟩
                case measure => simp [intOf]; omega
            · obtain rfl : p = vn := by omega
              go_wp2_with fail
              go_ret
              refine ⟨g, c', ?_, ?_, HK.out⟩
              · rw [HEQ.out, ← HLV.out, ← HNN.out]
                rfl
              · rw [HEQ.out, ← HLV.out, ← HNN.out]
                exact HO.out
      · obtain rfl : j = m := by omega
        have HE0 : Hid (tellL L (portT X) j a k x = [x]) := Lib.hid (by rw [← HMK.out, HE.out, Nat.sub_self]; rfl)
        have hjj : ((j : Int) == j) = true := by simp
        go_wp2_with fail
        go_ret
        refine ⟨w.heap.size, 1, ?_, ?_, Keeps.alloc _ _⟩
        · rw [HE0.out]; rfl
        · rw [HE0.out]
          exact own_of_blk (l := nl [x]) (heap_alloc_new w _) (Nat.le_refl _) rfl (by simp)
end
end Go.Proofs.Ytdjilgbcpdlkfaa
