/-
  The contracts of fars (the program) and fars (the reference): both answer the distances. Condition: one to six nodes, ports lead to nodes.
-/
import Derived.Test.YtdjilgbcpdlkfaaQue
import Derived.Test.YtdjilgbcpdlkfaaClass
import Derived.Deep.CutBlock
namespace Go.Proofs.Ytdjilgbcpdlkfaa
open Go.RowKit

/-- Ports lead to nodes. -/
def PortsIn (m : Nat) (L : Nat → Nat) (T : Nat → Nat → Nat) : Prop := ∀ v p, v < m → p < L v → T v p < m
/-- The call's own ints, as an answer. -/
def GiveInts (n : Nat) (x : Nat → Int) (w : World) (e : Ending) (w' : World) : Prop :=
  ∃ (g c : Nat), e = .returned (.slice (some ⟨g, 0, none⟩) n c) ∧ OwnInts w' w.heap.size (some ⟨g, 0, none⟩) n c (il n x) ∧ Keeps w w'
theorem il_at0 (n : Nat) (s : Nat) (d : Int) : (il n (fun _ => d)).set s 0 = il n (fun x => if x = s then 0 else d) := il_set n _ s 0
theorem ne_some {i g : Nat} (h : i ≠ g) : some i ≠ some g := fun e => h (by simpa using e)
theorem below_grown {w0 w w' : World} {g : Nat} (h : Keeps w0 w) (k : w.grownBy w' (some g)) (hg : w0.heap.size ≤ g) : Keeps w0 w' :=
  h.trans ⟨k.os, k.tape, k.output, k.size, fun i hi => k.block i (Nat.lt_of_lt_of_le hi h.size) (ne_some (by omega))⟩
/-- Nodes as ints. -/
def nl (l : List Nat) : List Int := l.map Int.ofNat
theorem nl_app (l : List Nat) (u : Nat) : nl l ++ [(u : Int)] = nl (l ++ [u]) := by simp [nl]
set_option maxRecDepth 100000 in
set_option maxHeartbeats 4000000 in
theorem ifars_any (A : Option Addr) (m c : Nat) (r : Nat → Option Addr × Nat × Nat) (L : Nat → Nat) (T : Nat → Nat → Nat) (s : Nat) (w : World) (h1 : 1 ≤ m) (h6 : m ≤ 6) (hr : Rows w A m r (fun v p => (T v p : Nat))) (hL : ∀ v, v < m → (r v).2.1 = L v) (hLb : ∀ v, v < m → L v ≤ 9223372036854775807) (hT : PortsIn m L T) (hs : s < m) :
    Calls Try.prog 55 #[.slice A m c, .int .i64 s] w (GiveInts m (farF m L T s) w) := by
  have HR := Lib.hid hr
  have HL := Lib.hid hL
  have HLb := Lib.hid hLb
  have HT := Lib.hid hT
  clear hr hL hLb hT
  have hsi : (s : Int) < m := by omega
  go_enter Try.func55, Try.ntmps55
  go_wp2_with fail
  refine (slRepeat_any w.heap.size m (-1) _ (by rw [World.cell?_alloc_at _ _ _ _ rfl]; rfl) h1 h6).mono ?_
  rintro e w1 ⟨g, rfl, hO, hk1⟩
  have hK1 := (Keeps.alloc w (.cells #[.int .i64 (-1)] 3)).step hk1
  have hc := hO.cell s hs
  have hf := hO.frozen s
  have hgb := hO.block
  have HO := Lib.hid (hO.set s 0)
  rw [il_at0] at HO
  have hw1 : w.heap.size ≤ g := Nat.le_trans (Keeps.alloc w (.cells #[.int .i64 (-1)] 3)).size hgb.1
  have HK2 : Hid (Keeps w (w1.setCell ⟨g, s, none⟩ (.int .i64 0))) := Lib.hid (hK1.setCell (p := ⟨g, s, none⟩) hw1 (.int .i64 0))
  have hgl := hgb.2
  clear hO hgb hk1 hK1
  go_wp2_with fail
  have HQ := Lib.hid (OwnSub.new (w1.setCell ⟨g, s, none⟩ (.int .i64 0)) w.heap.size s HK2.out.size)
  have HK3 := Lib.hid (HK2.out.step (Keeps.alloc _ (.cells #[.int .i64 s] 3)))
  have HO3 := Lib.hid (HO.out.keeps (Keeps.alloc _ (.cells #[.int .i64 s] 3)))
  have HGL : Hid (g < (w1.setCell ⟨g, s, none⟩ (.int .i64 0)).heap.size) := Lib.hid (by simp [World.setCell]; omega)
  have HS := Lib.hid (Bfs.start (L := L) (T := T) hs)
  have HN := Lib.hid (negs_le (fun x => if x = s then (0 : Int) else -1) m)
  have hsz : (w1.setCell ⟨g, s, none⟩ (.int .i64 0)).heap.size = w1.heap.size := by simp [World.setCell]
  go_loopg [6] (1 + 2 * negs (fun x => if x = s then (0 : Int) else -1) m) (fun k q wr => ∃ (f : Nat → Int) (l : List Nat) (gq off cq : Nat), q = .slice (some ⟨gq, off, none⟩) l.length cq ∧ Hid (k = l.length + 2 * negs f m ∧ k ≤ 100) ∧ Hid (OwnSub wr w.heap.size gq off l.length cq (nl l)) ∧ Hid (gq ≠ g) ∧ Hid (OwnInts wr w.heap.size (some ⟨g, 0, none⟩) m m (il m f)) ∧ Hid (Bfs m L T s f l) ∧ Keeps w wr)
  case atStart => exact ⟨_, [s], _, 0, 1, by simp, Lib.hid ⟨by simp, by have := HN.out; omega⟩, HQ.out, Lib.hid (by have := HGL.out; omega), Lib.hid (HO3.out.mono (by simp)), HS.out, HK3.out⟩
  case round =>
    clear HK2 HK3 HO HO3 HQ HS hc hf HN
    obtain ⟨f, l, gq, off, cq, rfl, HM, HQ, HNE, HO, HB, hK⟩ := hrel
    cases l with
    | nil =>
      have HFIN : Hid (OwnInts wr w.heap.size (some ⟨g, 0, none⟩) m m (il m (farF m L T s))) := Lib.hid (by
        rw [il_congr m _ f (fun x hx => dist_eq (far_dist m L T s) HB.out.finish x hx)]
        exact HO.out)
      have hcl := own_clip HO.out
      simp only [List.length_nil]
      go_wp2_with fail
      refine (slClip_any g m m _ (by omega)).mono ?_
      rintro e w5 ⟨rfl, rfl⟩
      go_wp2
      go_ret
      exact ⟨g, m, rfl, HFIN.out, hK⟩
    | cons v rest =>
      have hv := (HB.out.inq v List.mem_cons_self).1
      have hvi : (v : Int) < m := by omega
      obtain ⟨⟨bA, oA, rfl, hcA⟩, hrow⟩ := HR.out.keeps hK v hv
      have hLv := HL.out v hv
      have hLb := HLb.out v hv
      have HTv : Hid (∀ p, p < L v → T v p < m) := Lib.hid (fun p hp => HT.out v p hv hp)
      obtain ⟨ra, rn, rc, hrv⟩ : ∃ ra rn rc, r v = (ra, rn, rc) := ⟨_, _, _, rfl⟩
      rw [hrv] at hcA hrow hLv
      dsimp only at hcA hrow hLv
      rw [← hLv] at hLb HTv
      have HLV := Lib.hid hLv
      have hq0 := HQ.out.cell 0 (by simp)
      rw [Nat.add_zero, show (nl (v :: rest)).getD 0 0 = (v : Int) from rfl] at hq0
      have HROW := Lib.hid (((HR.out v hv).2))
      rw [hrv] at HROW
      simp only [List.length_cons] at HQ ⊢
      clear hrow hLv hrv
      go_wp2_with fail
      go_loopw [6, 30] (fun q i wi => ∃ (p : Nat) (f : Nat → Int) (ns : List Nat) (gq off cq : Nat), p ≤ rn ∧ i = .int .i64 p ∧ q = .slice (some ⟨gq, off, none⟩) (ns.length + 1) cq ∧ Hid (ns.length + 1 + 2 * negs f m ≤ gk ∧ gk ≤ 100) ∧ Hid (OwnSub wi w.heap.size gq off (ns.length + 1) cq (nl (v :: ns))) ∧ Hid (gq ≠ g) ∧ Hid (OwnInts wi w.heap.size (some ⟨g, 0, none⟩) m m (il m f)) ∧ Hid (Bfs m L T s f (v :: ns)) ∧ Hid (∀ p', p' < p → 0 ≤ f (T v p') ∧ f (T v p') ≤ f v + 1) ∧ Keeps w wi) (fun _ i _ => rn - (intOf i).toNat)
      case atStart => exact ⟨0, f, rest, gq, off, cq, by omega, rfl, rfl, Lib.hid ⟨by have := HM.out.1; simp at this; omega, HM.out.2⟩, HQ, HNE, HO, HB, Lib.hid (fun p' hp => absurd hp (Nat.not_lt_zero _)), hK⟩
      case round =>
        clear HM HQ HNE HO HB hK hcA hq0
        obtain ⟨p, f, ns, gq, off, cq, hp, rfl, rfl, HM, HQ, HNE, HO, HB, HD, hK⟩ := hrel
        have hfv := (HB.out.inq v List.mem_cons_self).2
        have hfm := dist_lt (A := Adj L T) HB.out.pred v hv
        by_cases hlt : p < rn
        · have hpi : (p : Int) < rn := by omega
          obtain ⟨bR, oR, rfl, hcR⟩ := HROW.out.keeps hK p hlt
          have hu := HTv.out p hlt
          have HADJ : Hid (Adj L T v (T v p)) := Lib.hid ⟨p, by rw [← HLV.out]; exact hlt, rfl⟩
          obtain ⟨u, hue⟩ : ∃ u, u = T v p := ⟨_, rfl⟩
          dsimp only at hcR
          rw [← hue] at hcR hu HADJ
          have HUE := Lib.hid hue
          clear hue
          have hui : (u : Int) < m := by omega
          have hcu := HO.out.cell u hu
          have hcv := HO.out.cell v hv
          rw [il_getD _ _ _ hu] at hcu
          rw [il_getD _ _ _ hv] at hcv
          have hq0 := HQ.out.cell 0 (by simp)
          rw [Nat.add_zero, show (nl (v :: ns)).getD 0 0 = (v : Int) from rfl] at hq0
          have hfz := HO.out.frozen u
          by_cases hneg : f u < 0
          · have HPUSH := Lib.hid (HB.out.push HADJ.out hu hneg)
            have HNEG := Lib.hid (negs_set f u (f v + 1) hneg (by omega) m hu)
            have HO2 := Lib.hid (HO.out.set u (f v + 1))
            rw [il_set] at HO2
            have hfm' : f v ≤ 100 := by omega
            have HFU : Hid (f u < 0) := Lib.hid hneg
            obtain ⟨fv, hfve⟩ : ∃ fv, fv = f v := ⟨_, rfl⟩
            have HD2 : Hid (∀ p', p' < p + 1 → 0 ≤ (if T v p' = u then fv + 1 else f (T v p')) ∧ (if T v p' = u then fv + 1 else f (T v p')) ≤ (if v = u then fv + 1 else f v) + 1) := Lib.hid (fun p' hp' => by
              have hvu : v ≠ u := fun e => by rw [e] at hfv; omega
              rw [if_neg hvu]
              by_cases e : T v p' = u
              · rw [if_pos e]; omega
              · rw [if_neg e]
                exact HD.out p' (by
                  have : p' ≠ p := fun e2 => e (by rw [e2, HUE.out])
                  omega))
            rw [← hfve] at hcv hfv hfm' HO2 HPUSH HNEG
            obtain ⟨fu, hfue⟩ : ∃ fu, fu = f u := ⟨_, rfl⟩
            rw [← hfue] at hcu hneg
            have HQ2 := Lib.hid (HQ.out.set_other g u (.int .i64 (fv + 1)) (Ne.symm HNE.out))
            have hnb : ns.length + 1 + 1 ≤ 1099511627776 := by have := HM.out; omega
            have HGB := Lib.hid HO.out.block
            have HK2 : Hid (Keeps w (wr.setCell ⟨g, u, none⟩ (.int .i64 (fv + 1)))) := Lib.hid (hK.setCell (p := ⟨g, u, none⟩) HO.out.block.1 _)
            have hsz2 := HK2.out.size
            have hsz3 : (wr.setCell ⟨g, u, none⟩ (.int .i64 (fv + 1))).heap.size = wr.heap.size := by simp [World.setCell]
            have HSZ := Lib.hid hsz3
            clear hfve hfue hfm hsz3
            go_wp2_with (first | (at_builtin; refine wp_app_sub rfl _ _ rfl w.heap.size gq off (ns.length + 1) cq (nl (v :: ns)) _ rfl HQ2.out _ _ rfl HSZ.out.symm hnb hsz2 ?_; intro g' off' c' w' hQ' hg' hgd'))
            have HO3 := Lib.hid (own_kept HO2.out hg' (fun k hk e => by
              have e1 : g = k := by simpa using hk
              have e2 : gq = k := by simpa using e
              exact HNE.out (by omega)))
            rw [nl_app] at hQ'
            go_roundw
            case rel => exact ⟨p + 1, _, ns ++ [u], g', off', c', by omega, by go_num, by simp, Lib.hid ⟨by have h1 := HM.out.1; have h2 := HNEG.out; rw [List.length_append, List.length_singleton]; omega, HM.out.2⟩, Lib.hid (by simpa using hQ'), Lib.hid (by have := HSZ.out; have := HGB.out; have := HNE.out; rcases hgd' with h | h <;> omega), HO3, HPUSH, HD2, below_grown HK2.out hg' HQ2.out.1⟩
            case measure => simp [intOf]; omega
          · have HD2 : Hid (∀ p', p' < p + 1 → 0 ≤ f (T v p') ∧ f (T v p') ≤ f v + 1) := Lib.hid (fun p' hp' => by
              by_cases e : p' = p
              · rw [e, ← HUE.out]
                exact ⟨by omega, HB.out.top u v ns hu rfl⟩
              · exact HD.out p' (by omega))
            obtain ⟨fu, hfue⟩ : ∃ fu, fu = f u := ⟨_, rfl⟩
            rw [← hfue] at hcu hneg
            clear hfue hfv hfm hcv
            go_wp2_with fail
            go_roundw
            case rel => exact ⟨p + 1, f, ns, gq, off, cq, by omega, by go_num, rfl, HM, HQ, HNE, HO, HB, HD2, hK⟩
            case measure => simp [intOf]; omega
        · obtain rfl : p = rn := by omega
          have HPOP := Lib.hid (HB.out.pop (fun p' hp' => HD.out p' (by rw [HLV.out]; exact hp')))
          have hcap := HQ.out.cap
          by_cases hc1 : cq = 1
          · have hns : ns.length = 0 := by omega
            obtain rfl := List.eq_nil_of_length_eq_zero hns
            subst hc1
            simp only [List.length_nil, Nat.zero_add] at HQ ⊢
            have HQ0 := Lib.hid (OwnSub.pop0 HQ.out)
            go_wp2_with fail
            go_roundg (2 * negs f m)
            case measure => have := HM.out.1; simp at this; omega
            case rel => exact ⟨f, [], gq, off, 0, rfl, Lib.hid ⟨by simp, by have := HM.out; simp at this; omega⟩, HQ0, HNE, HO, HPOP, hK⟩
          · obtain ⟨d, rfl⟩ : ∃ d, cq = d + 1 := ⟨cq - 1, by omega⟩
            have hd : d ≠ 0 := by omega
            have HQ0 := Lib.hid (OwnSub.pop HQ.out)
            go_wp2_with fail
            go_roundg (ns.length + 2 * negs f m)
            case measure => have := HM.out.1; omega
            case rel => exact ⟨f, ns, gq, off + 1, d, rfl, Lib.hid ⟨rfl, by have := HM.out; omega⟩, HQ0, HNE, HO, HPOP, hK⟩
set_option maxRecDepth 100000 in
set_option maxHeartbeats 4000000 in
theorem sfars_any (A B : Option Addr) (m c mm d0 : Nat) (r : Nat → Option Addr × Nat × Nat) (L : Nat → Nat) (T : Nat → Nat → Nat) (s : Nat) (w : World) (h6 : m ≤ 6) (hr : Rows w A m r (fun v p => (T v p : Nat))) (hL : ∀ v, v < m → (r v).2.1 = L v) (hLb : ∀ v, v < m → L v ≤ 9223372036854775807) (hT : PortsIn m L T) (hs : s < m) :
    Calls Try.prog 59 #[.agg #[.slice A m c, .slice B mm d0], .int .i64 s] w (GiveInts m (farF m L T s) w) := by
  have HR := Lib.hid (hr.keeps (Keeps.alloc w (.cells #[.slice A m c, .slice B mm d0] 27)))
  have HL := Lib.hid hL
  have HLb := Lib.hid hLb
  have HT := Lib.hid hT
  have kA := Keeps.alloc w (.cells #[.slice A m c, .slice B mm d0] 27)
  clear hr hL hLb hT
  have hsi : (s : Int) < m := by omega
  have hmk := make_ints m (by omega)
  have hB := Blk.new w #[.slice A m c, .slice B mm d0] 27
  have hbz : w.heap.size < (w.alloc (.cells #[.slice A m c, .slice B mm d0] 27)).heap.size := hB.lt
  have b0 : (w.alloc (.cells #[.slice A m c, .slice B mm d0] 27)).cell? ⟨w.heap.size, 0, none⟩ = some (.slice A m c) := hB.cell 0
  have HB0 := Lib.hid b0
  go_enter Try.func59, Try.ntmps59
  go_upto_region 1 with fail
  obtain ⟨w0, hw0⟩ : ∃ w0, w0 = w.alloc (.cells #[.slice A m c, .slice B mm d0] 27) := ⟨_, rfl⟩
  obtain ⟨bx, hbx⟩ : ∃ bx, bx = w.heap.size := ⟨_, rfl⟩
  rw [← hw0] at HR kA b0 HB0 hbz ⊢
  rw [← hbx] at b0 HB0 hbz ⊢
  have HBX := Lib.hid hbx
  clear hw0 hbx hB
  go_wp2_with fail
  go_loopw [6] (fun i wr => ∃ k : Nat, k ≤ m ∧ i = .int .i64 k ∧ OwnInts wr w0.heap.size (some ⟨w0.heap.size, 0, none⟩) m m (il m (fun x => if x < k then -1 else 0)) ∧ Keeps w0 wr) (fun i _ => m - (intOf i).toNat)
  case atStart =>
    refine ⟨0, by omega, rfl, ?_, Keeps.alloc _ _⟩
    rw [il_congr m _ (fun _ => 0) (fun i _ => by simp), ← il_zero]
    exact OwnInts.make _ _ _ (Nat.le_refl _) (by omega)
  case round =>
    obtain ⟨k, hk, rfl, hO, hK⟩ := hrel
    by_cases hlt : k < m
    · have hki : (k : Int) < m := by omega
      have hc := hO.cell k hlt
      have hf := hO.frozen k
      have HN := Lib.hid (hO.set k (-1))
      clear hO
      go_wp2
      go_roundw
      case rel =>
        refine ⟨k + 1, by omega, by go_num, ?_, Below.setCell hK (Nat.le_refl _) _⟩
        have h := HN.out
        rw [il_set] at h
        rw [il_congr m _ (fun i => if i = k then -1 else if i < k then -1 else 0) (fun i _ => by
          by_cases h1 : i = k
          · subst h1; simp
          · by_cases h2 : i < k
            · rw [if_pos (by omega), if_neg h1, if_pos h2]
            · rw [if_neg (by omega), if_neg h1, if_neg h2])]
        exact h
      case measure => simp [intOf]; omega
    · obtain rfl : k = m := by omega
      have hc := hO.cell s hs
      have hf := hO.frozen s
      have HN : Hid (OwnInts (wr.setCell ⟨w0.heap.size, s, none⟩ (.int .i64 0)) w0.heap.size (some ⟨w0.heap.size, 0, none⟩) k k (il k (levF k L T s 0))) := Lib.hid (by
        have h := hO.set s 0
        rw [il_set] at h
        rw [il_congr k (levF k L T s 0) (fun i => if i = s then 0 else if i < k then -1 else 0) (fun i hi => by
          show (if i = s then (0 : Int) else -1) = _
          rw [if_pos hi])]
        exact h)
      have HK2 : Hid (Keeps w0 (wr.setCell ⟨w0.heap.size, s, none⟩ (.int .i64 0))) := Lib.hid (Below.setCell hK (Nat.le_refl _) _)
      clear hO hK
      go_wp2_with fail
      go_loopw [7] (fun i wr => ∃ d : Nat, d ≤ k ∧ i = .int .i64 d ∧ Hid (OwnInts wr w0.heap.size (some ⟨w0.heap.size, 0, none⟩) k k (il k (levF k L T s d))) ∧ Keeps w0 wr) (fun i _ => k - (intOf i).toNat)
      case atStart => exact ⟨0, by omega, rfl, HN, HK2.out⟩
      case round =>
        clear HN HK2 hc hf
        obtain ⟨d, hd, rfl, HO, hK⟩ := hrel
        by_cases hltd : d < k
        · have hdi : (d : Int) < k := by omega
          have HLOW := Lib.hid (lev_inv k L T s d).low
          have HNEXT := Lib.hid (show levF k L T s (d + 1) = sweptF L T d (levF k L T s d) k 0 from rfl)
          generalize levF k L T s d = f at *
          go_wp2_with fail
          go_loopw [8] (fun i wr => ∃ v : Nat, v ≤ k ∧ i = .int .i64 v ∧ Hid (OwnInts wr w0.heap.size (some ⟨w0.heap.size, 0, none⟩) k k (il k (sweptF L T d f v 0))) ∧ Keeps w0 wr) (fun i _ => k - (intOf i).toNat)
          case atStart => exact ⟨0, by omega, rfl, by rw [swept_zero]; exact HO, hK⟩
          case round =>
            clear HO hK
            obtain ⟨v, hv, rfl, HO, hK⟩ := hrel
            by_cases hltv : v < k
            · have hvi : (v : Int) < k := by omega
              obtain ⟨⟨bA, oA, rfl, hcA0⟩, _⟩ := HR.out v hltv
              have HCA := Lib.hid hcA0
              have HROW := Lib.hid ((HR.out v hltv).2)
              have hLv := HL.out v hltv
              have hLb := HLb.out v hltv
              have HTv : Hid (∀ p, p < L v → T v p < k) := Lib.hid (fun p hp => HT.out v p hltv hp)
              obtain ⟨ra, rn, rc, hrv⟩ : ∃ ra rn rc, r v = (ra, rn, rc) := ⟨_, _, _, rfl⟩
              rw [hrv] at HCA HROW hLv
              dsimp only at hLv
              rw [← hLv] at hLb HTv
              have HLV := Lib.hid hLv
              clear hLv hrv hcA0
              go_wp2_with fail
              go_loopw [9] (fun i wr => ∃ p : Nat, p ≤ rn ∧ i = .int .i64 p ∧ Hid (OwnInts wr w0.heap.size (some ⟨w0.heap.size, 0, none⟩) k k (il k (sweptF L T d f v p))) ∧ Keeps w0 wr) (fun i _ => rn - (intOf i).toNat)
              case atStart => exact ⟨0, by omega, rfl, HO, hK⟩
              case round =>
                clear HO hK
                obtain ⟨p, hp, rfl, HO, hK⟩ := hrel
                have hb0 := cell_keeps hK HB0.out
                have hcA := cell_keeps hK HCA.out
                have hcv := HO.out.cell v hltv
                rw [il_getD _ _ _ hltv] at hcv
                have HAT := Lib.hid (swept_at L T d f v p v)
                have hlow := swept_low L T d f v p v (HLOW.out v)
                by_cases hltp : p < rn
                · have hpi : (p : Int) < rn := by omega
                  by_cases hfd : f v = (d : Int)
                  · have HFD := Lib.hid hfd
                    have hcv2 : sweptF L T d f v p v = (d : Int) := HAT.out.2 hfd
                    rw [hcv2] at hcv
                    clear hfd hlow
                    obtain ⟨bR, oR, rfl, hcR⟩ := HROW.out.keeps hK p hltp
                    have hu := HTv.out p hltp
                    obtain ⟨u, hue⟩ : ∃ u, u = T v p := ⟨_, rfl⟩
                    dsimp only at hcR
                    rw [← hue] at hcR hu
                    have HUE := Lib.hid hue
                    clear hue
                    have hui : (u : Int) < k := by omega
                    have hcu := HO.out.cell u hu
                    rw [il_getD _ _ _ hu] at hcu
                    have hfz := HO.out.frozen u
                    by_cases hneg : sweptF L T d f v p u < 0
                    · have HS : Hid (OwnInts (wr.setCell ⟨w0.heap.size, u, none⟩ (.int .i64 ((d : Int) + 1))) w0.heap.size (some ⟨w0.heap.size, 0, none⟩) k k (il k (sweptF L T d f v (p + 1)))) := Lib.hid (by
                        rw [swept_port L T d f v p HFD.out (by rw [← HUE.out]; exact hneg), ← HUE.out, ← il_set]
                        exact HO.out.set u _)
                      generalize sweptF L T d f v p u = fu at *
                      clear hcv2
                      go_wp2_with fail
                      go_roundw
                      case rel => exact ⟨p + 1, by omega, by go_num, HS, Below.setCell hK (Nat.le_refl _) _⟩
                      case measure => simp [intOf]; omega
                    · have HS : Hid (sweptF L T d f v (p + 1) = sweptF L T d f v p) := Lib.hid (swept_port_not L T d f v p (by rw [← HUE.out]; exact hneg))
                      generalize sweptF L T d f v p u = fu at *
                      clear hcv2
                      go_wp2_with fail
                      go_roundw
                      case rel => exact ⟨p + 1, by omega, by go_num, by rw [HS.out]; exact HO, hK⟩
                      case measure => simp [intOf]; omega
                  · have hne : ¬ sweptF L T d f v p v = (d : Int) := fun h => hfd (HAT.out.1 h)
                    have HS : Hid (sweptF L T d f v p = sweptF L T d f (v + 1) 0) := Lib.hid (by rw [← swept_next, swept_skip L T d f v p hfd, swept_skip L T d f v (L v) hfd])
                    generalize sweptF L T d f v p v = fv at *
                    have hne2 : (fv == (d : Int)) = false := by simpa using hne
                    clear hne hfd hlow
                    go_wp2_with fail
                    go_roundw
                    case rel => exact ⟨v + 1, by omega, by go_num, by rw [← HS.out]; exact HO, hK⟩
                    case measure => simp [intOf]; omega
                · obtain rfl : p = rn := by omega
                  have HS : Hid (sweptF L T d f v p = sweptF L T d f (v + 1) 0) := Lib.hid (by rw [← swept_next, HLV.out])
                  generalize sweptF L T d f v p v = fv at *
                  clear hcv hlow
                  go_wp2_with fail
                  go_roundw
                  case rel => exact ⟨v + 1, by omega, by go_num, by rw [← HS.out]; exact HO, hK⟩
                  case measure => simp [intOf]; omega
            · obtain rfl : v = k := by omega
              go_wp2_with fail
              go_roundw
              case rel => exact ⟨d + 1, by omega, by go_num, by rw [HNEXT.out]; exact HO, hK⟩
              case measure => simp [intOf]; omega
        · obtain rfl : d = k := by omega
          have HF : Hid (OwnInts wr w.heap.size (some ⟨w0.heap.size, 0, none⟩) d d (il d (farF d L T s))) := Lib.hid (HO.out.mono (by have := HBX.out; omega))
          go_wp2_with fail
          go_ret
          exact ⟨_, _, rfl, HF.out, kA.step hK⟩
end Go.Proofs.Ytdjilgbcpdlkfaa
